/- Merged: Ya9 Yb1 Yb2 Yb3. Conditions: none. -/
import Derived.Test.YtejfkiohnoiagaaYa
set_option linter.all false
section
namespace Go.Proofs.Ytejfkiohnoiagaa.VM
set_option linter.unusedSectionVars false
open Go AM
section
variable {k s : Int} {ga gb : List (List Int)}
theorem Good.left (h : Good k s (ga ++ gb)) : Good k s ga := by
  have hl : (ga ++ gb).length = ga.length + gb.length := List.length_append
  refine ⟨by have := h.a1; omega, h.s0, h.s1, ?_, fun hw => ?_, fun hw => ?_, fun hw g hg => h.rng hw g (List.mem_append_left _ hg), fun hk g hg => h.rise hk g (List.mem_append_left _ hg)⟩
  · rcases h.kind with g | g | ⟨g, g'⟩ | g | g
    · exact .inl g
    · exact .inr (.inl g)
    · exact .inr (.inr (.inl ⟨g, fun x hx => g' x (List.mem_append_left _ hx)⟩))
    · exact .inr (.inr (.inr (.inl g)))
    · exact .inr (.inr (.inr (.inr g)))
  · have := h.wh hw
    rw [hl, Int.natCast_add, Int.add_mul] at this
    have := Int.mul_nonneg (by omega : 0 ≤ (gb.length : Int)) h.s0
    omega
  · have := h.many hw
    rw [total_app] at this
    omega
theorem Good.right (h : Good k s (ga ++ gb)) : Good k s gb := by
  have hl : (ga ++ gb).length = ga.length + gb.length := List.length_append
  refine ⟨by have := h.a1; omega, h.s0, h.s1, ?_, fun hw => ?_, fun hw => ?_, fun hw g hg => h.rng hw g (List.mem_append_right _ hg), fun hk g hg => h.rise hk g (List.mem_append_right _ hg)⟩
  · rcases h.kind with g | g | ⟨g, g'⟩ | g | g
    · exact .inl g
    · exact .inr (.inl g)
    · exact .inr (.inr (.inl ⟨g, fun x hx => g' x (List.mem_append_right _ hx)⟩))
    · exact .inr (.inr (.inr (.inl g)))
    · exact .inr (.inr (.inr (.inr g)))
  · have := h.wh hw
    rw [hl, Int.natCast_add, Int.add_mul] at this
    have := Int.mul_nonneg (by omega : 0 ≤ (ga.length : Int)) h.s0
    omega
  · have := h.many hw
    rw [total_app] at this
    omega
/-- How many children the first ones have. -/
def belowG (k s : Int) (gs : List (List Int)) : Nat := if whole k = true then gs.length * s.toNat else total gs
theorem below_made (h : Good k s ga) : belowN k s (mkCrd k ga) (ga.length : Int) = (belowG k s ga : Int) := by
  have hs := h.s0
  unfold belowN belowG
  cases hw : whole k with
  | true =>
    rw [if_pos rfl, if_pos rfl, Int.natCast_mul]
    congr 1; omega
  | false => rw [if_neg (by simp), if_neg (by simp), crd_flat hw, total_flatten]
theorem below_app : belowG k s (ga ++ gb) = belowG k s ga + belowG k s gb := by
  unfold belowG
  rw [total_app, List.length_append, Nat.add_mul]
  split <;> rfl
theorem below_small (h : Good k s ga) : (belowG k s ga : Int) ≤ 1048576 := by
  rw [← below_made h]
  exact (make_good.2 h).2.below
theorem seg_app (h : Good k s (ga ++ gb)) (p : Nat) (hp : p ≤ gb.length) : segA k s (mkPos k (ga ++ gb)) (ga.length + p) = segA k s (mkPos k gb) p + (belowG k s ga : Int) := by
  have hs := h.s0
  cases hw : whole k with
  | true =>
    unfold belowG
    rw [segA_whole hw, segA_whole hw, hw, if_pos rfl, Int.natCast_add, Int.add_mul, Int.natCast_mul]
    have : ((s.toNat : Nat) : Int) = s := by omega
    rw [this]; omega
  | false =>
    unfold belowG
    rw [made_seg h hw _ (by rw [List.length_append]; omega), made_seg h.right hw p hp, hw, if_neg (by simp), List.take_length_add_append, total_app]
    omega
/-- The others stand behind the first, numbered on. -/
theorem kids_app (h : Good k s (ga ++ gb)) (p : Nat) (hp : p < gb.length) : kidL k s (mkPos k (ga ++ gb)) (mkCrd k (ga ++ gb)) (ga.length + p) = (kidL k s (mkPos k gb) (mkCrd k gb) p).map fun q => (q.1, q.2 + (belowG k s ga : Int)) := by
  have v := (make_good.2 h.right).2
  obtain ⟨a, b, ha, hb, hab, hbb, hcb, _⟩ := v.segNat gb.length p hp
  have sa := seg_app h p (by omega)
  have sb := seg_app h (p + 1) (by omega)
  rw [ha, ← Int.natCast_add] at sa
  rw [hb, ← Int.natCast_add, ← Nat.add_assoc] at sb
  have l1 := kidL_len (crd := mkCrd k (ga ++ gb)) (ga.length + p) _ _ sa sb
  have l2 := kidL_len (crd := mkCrd k gb) p a b ha hb
  apply List.ext_getElem?
  intro i
  by_cases hi : i < b - a
  · rw [kidL_at _ _ _ sa sb (by omega), List.getElem?_map, kidL_at p a b ha hb hi]
    have e : ((a + belowG k s ga + i : Nat) : Int) = ((a + i : Nat) : Int) + (belowG k s ga : Int) := by omega
    show some (_, _) = some (_, _)
    rw [← e]
    congr 2
    unfold atOf
    cases hw : whole k with
    | true => rw [if_pos rfl, if_pos rfl]; omega
    | false =>
      rw [if_neg (by simp), if_neg (by simp), Int.toNat_natCast, Int.toNat_natCast, crd_flat hw, crd_flat hw, List.flatten_append]
      have e2 : a + belowG k s ga + i = ga.flatten.length + (a + i) := by
        unfold belowG
        rw [hw, if_neg (by simp), total_flatten]; omega
      rw [e2, nth_app2]
  · rw [List.getElem?_eq_none (by omega), List.getElem?_eq_none (by rw [List.length_map]; omega)]
theorem L424_spec (az : Bool) (A : List T) (bz : Bool) (B : List T) (up cz dz : Bool) (n : Nat) (pl : List (Int × Int)) (hpl : pl.length ≤ 1048576) (hr : ∀ q ∈ pl, 0 ≤ q.2 + (n : Int) ∧ q.2 + (n : Int) ≤ 4611686018427387904) (t132 t133 : Int) (m80 m81 : Int) (m8z : Bool) (m82 : List T) (m83z : Bool) (m83 : List T) (m90 m91 : Int) (m9z : Bool) (m92 : List T) (m93z : Bool) (m93 : List T) : ∀ (m i : Nat), m + i = pl.length →
    L4_24 az A bz B up (n : Int) cz (pl.map fun q => kidT q.1 q.2) dz ((pl.map fun q => (q.1, q.2 + (n : Int))).map fun q => kidT q.1 q.2) t132 t133 (pl.length : Int) (i : Int) m80 m81 m8z m82 m83z m83 m90 m91 m9z m92 m93z m93 = L4_17 az A bz B up (n : Int) t132 (IntKind.i64.wrap (t133 + 1)) m80 m81 m8z m82 m83z m83 m90 m91 m9z m92 m93z m93
  | 0, i, h => by
    have d : decide ((i : Int) < (pl.length : Int)) = false := decide_eq_false (by omega)
    rw [L4_24_eq, RL4_24, d, cf]
  | m + 1, i, h => by
    have d : decide ((i : Int) < (pl.length : Int)) = true := decide_eq_true (by omega)
    have hq : pl[i]? = some (pl[i]'(by omega)) := List.getElem?_eq_getElem (by omega)
    have hm : pl[i]'(by omega) ∈ pl := List.getElem_mem (by omega)
    generalize pl[i]'(by omega) = q at hq hm
    have hq2 : (pl.map fun q => (q.1, q.2 + (n : Int)))[i]? = some (q.1, q.2 + (n : Int)) := by rw [List.getElem?_map, hq]; rfl
    have hw := hr q hm
    have ih := L424_spec az A bz B up cz dz n pl hpl hr t132 t133 m80 m81 m8z m82 m83z m83 m90 m91 m9z m92 m93z m93 m (i + 1) (by omega)
    rw [L4_24_eq, RL4_24, d, ct, needNat, Int.toNat_natCast, getK hq2]
    simp only [callK_some, asT_t, asI_int, asB_bool, asS_str, asL_list, asA_agg, consT_cons, endT_nil, asG_agg, asTup_tup, consV_cons, endV_nil, endB_nil, consB_cons, asArr_arr, asAv_av, asMp_map, asVar_var, isBuf_buf, isPtr_ptr, needC_t, ct, cf, bNT, bNF, bTA, bAT, bFA, bAF, bTO, bOT, bFO, bOF, dT, dF]
    rw [needNat, getK hq]
    simp only [callK_some, asT_t, asI_int, asB_bool, asS_str, asL_list, asA_agg, consT_cons, endT_nil, asG_agg, asTup_tup, consV_cons, endV_nil, endB_nil, consB_cons, asArr_arr, asAv_av, asMp_map, asVar_var, isBuf_buf, isPtr_ptr, needC_t, ct, cf, bNT, bNF, bTA, bAT, bFA, bAF, bTO, bOT, bFO, bOF, dT, dF]
    rw [needNat, getK hq2]
    simp only [callK_some, asT_t, asI_int, asB_bool, asS_str, asL_list, asA_agg, consT_cons, endT_nil, asG_agg, asTup_tup, consV_cons, endV_nil, endB_nil, consB_cons, asArr_arr, asAv_av, asMp_map, asVar_var, isBuf_buf, isPtr_ptr, needC_t, ct, cf, bNT, bNF, bTA, bAT, bFA, bAF, bTO, bOT, bFO, bOF, dT, dF]
    rw [needNat, getK hq]
    simp only [callK_some, asT_t, asI_int, asB_bool, asS_str, asL_list, asA_agg, consT_cons, endT_nil, asG_agg, asTup_tup, consV_cons, endV_nil, endB_nil, consB_cons, asArr_arr, asAv_av, asMp_map, asVar_var, isBuf_buf, isPtr_ptr, needC_t, ct, cf, bNT, bNF, bTA, bAT, bFA, bAF, bTO, bOT, bFO, bOF, dT, dF]
    rw [wrap64 (by omega) (by omega), decide_eq_true rfl, bNT, cf, natWrap (by omega)]
    exact ih
theorem L417_spec (h : Good k s (ga ++ gb)) (hn : ga.length + gb.length ≤ 100) (az : Bool) (A : List T) (bz : Bool) (B : List T) (hA : IsG A ga) (hB : IsG B gb) (hp1 : (mkPos k gb).length ≤ 1000000) (hp2 : (mkPos k (ga ++ gb)).length ≤ 1000000) (pz cz pz2 cz2 : Bool) : ∀ (m p : Nat), m + p = gb.length →
    L4_17 az A bz B true (belowG k s ga : Int) (B.length : Int) (p : Int) k s pz (ints (mkPos k gb)) cz (ints (mkCrd k gb)) k s pz2 (ints (mkPos k (ga ++ gb))) cz2 (ints (mkCrd k (ga ++ gb))) = some (.t (.bool true), e0)
  | 0, p, hm => by
    have hlb := hB.length
    have d : decide ((p : Int) < (B.length : Int)) = false := decide_eq_false (by omega)
    rw [L4_17_eq, RL4_17, d, cf]
  | m + 1, p, hm => by
    have hla := hA.length
    have hlb := hB.length
    have d : decide ((p : Int) < (B.length : Int)) = true := decide_eq_true (by omega)
    have v1 := (make_good.2 h.right).2
    have v2 := (make_good.2 h).2
    have hbs := below_small h.left
    obtain ⟨zz, c1⟩ := children15 (pz := pz) (cz := cz) gb.length v1 (by omega) p (by omega)
    obtain ⟨zz2, c2⟩ := children15 (pz := pz2) (cz := cz2) (ga ++ gb).length v2 (by omega) (ga.length + p) (by rw [List.length_append]; omega)
    obtain ⟨a, b, ha, hb, hab, hbb, hcb, _⟩ := v1.segNat gb.length p (by omega)
    have hkl := kidL_len (crd := mkCrd k gb) p a b ha hb
    have e1 : (B.length : Int) = (gb.length : Int) := by omega
    have e2 : IntKind.i64.wrap ((A.length : Int) + (gb.length : Int)) = ((ga ++ gb).length : Int) := by rw [wrap64 (by omega) (by omega), List.length_append]; omega
    have e3 : IntKind.i64.wrap ((A.length : Int) + (p : Int)) = ((ga.length + p : Nat) : Int) := by rw [wrap64 (by omega) (by omega)]; omega
    have ih := L417_spec h hn az A bz B hA hB hp1 hp2 pz cz pz2 cz2 m (p + 1) (by omega)
    rw [L4_17_eq, RL4_17, d, ct, e1, c1, kids_kidL, callK_some]
    simp only [callK_some, asT_t, asI_int, asB_bool, asS_str, asL_list, asA_agg, consT_cons, endT_nil, asG_agg, asTup_tup, consV_cons, endV_nil, endB_nil, consB_cons, asArr_arr, asAv_av, asMp_map, asVar_var, isBuf_buf, isPtr_ptr, needC_t, ct, cf, bNT, bNF, bTA, bAT, bFA, bAF, bTO, bOT, bFO, bOF, dT, dF]
    rw [e2, e3, c2, kids_kidL, kids_app h p (by omega), callK_some]
    simp only [callK_some, asT_t, asI_int, asB_bool, asS_str, asL_list, asA_agg, consT_cons, endT_nil, asG_agg, asTup_tup, consV_cons, endV_nil, endB_nil, consB_cons, asArr_arr, asAv_av, asMp_map, asVar_var, isBuf_buf, isPtr_ptr, needC_t, ct, cf, bNT, bNF, bTA, bAT, bFA, bAF, bTO, bOT, bFO, bOF, dT, dF]
    rw [List.length_map, List.length_map, List.length_map, decide_eq_true rfl, bNT, cf]
    have hr : ∀ q ∈ kidL k s (mkPos k gb) (mkCrd k gb) p, 0 ≤ q.2 + (belowG k s ga : Int) ∧ q.2 + (belowG k s ga : Int) ≤ 4611686018427387904 := fun q hq => by
      obtain ⟨i, hi, he⟩ := List.mem_iff_getElem.1 hq
      have := kidL_at (crd := mkCrd k gb) p a b ha hb (i := i) (by omega)
      rw [List.getElem?_eq_getElem hi, he] at this
      rw [Option.some.inj this]
      show 0 ≤ ((a + i : Nat) : Int) + _ ∧ ((a + i : Nat) : Int) + _ ≤ _
      omega
    refine Eq.trans (L424_spec az A bz B true zz zz2 (belowG k s ga) (kidL k s (mkPos k gb) (mkCrd k gb) p) (by omega) hr (gb.length : Int) (p : Int) _ _ _ _ _ _ _ _ _ _ _ _ (kidL k s (mkPos k gb) (mkCrd k gb) p).length 0 (by omega)) ?_
    rw [natWrap (by omega), ← e1]
    exact ih
end
theorem pos_small (k : Int) (gs : List (List Int)) (h : gs.length ≤ 1000) : (mkPos k gs).length ≤ 1000000 := by
  by_cases hk : k = 1 ∨ k = 2
  · rw [pos_len hk]; omega
  · rw [pos_none hk]; simp
theorem joins_core (k s : Int) (az : Bool) (A : List T) (ga : List (List Int)) (hA : IsG A ga) (bz : Bool) (B : List T) (gb : List (List Int)) (hB : IsG B gb) (hta : total ga + total gb ≤ 2000000) (hla : ga.length ≤ 1048576) (hlb : gb.length ≤ 1048576) :
    vr 4 0 [.t (.int .i64 k), .t (.int .i64 s), .t (.list 1 az A), .t (.list 1 bz B)] e0 = some (.t (.bool true), e0) := by
  have hA' := hA.length
  have hB' := hB.length
  rw [eq4, R4, live9, callK_some, asT_t, asB_bool, endB_nil, wrap64 (by omega) (by omega)]
  by_cases h1 : 100 < (A.length : Int) + (B.length : Int)
  · rw [decide_eq_true h1, ct]
  rw [decide_eq_false h1, cf]
  have n1 : (decide (A.length * (24 + 1) ≤ 70368744177664) && decide (24 ≤ 1048576)) = true := by rw [decide_eq_true (by omega)]; rfl
  have n2 : (decide ((A.length + B.length) * (24 + 1) ≤ 70368744177664) && decide (24 ≤ 1048576)) = true := by rw [decide_eq_true (by omega)]; rfl
  have m1 := make10 k s az A ga hA (by omega) (by omega)
  have m2 := make10 k s bz B gb hB (by omega) (by omega)
  have m3 := make10 k s ((!A.isEmpty) || (!B.isEmpty)) (A ++ B) (ga ++ gb) (hA.app hB) (by rw [List.length_append]; omega) (by rw [total_app]; omega)
  rcases m1 with ⟨x1, hx1, r1, b1⟩ | ⟨p1, c1, r1, g1⟩ <;> rcases m2 with ⟨x2, hx2, r2, b2⟩ | ⟨p2, c2, r2, g2⟩ <;> rcases m3 with ⟨x3, hx3, r3, b3⟩ | ⟨p3, c3, r3, g3⟩
  case inl.inl.inl =>
    rw [r1, callK_some]; simp only [callK_some, asT_t, asI_int, asB_bool, asS_str, asL_list, asA_agg, consT_cons, endT_nil, asG_agg, asTup_tup, consV_cons, endV_nil, endB_nil, consB_cons, asArr_arr, asAv_av, asMp_map, asVar_var, isBuf_buf, isPtr_ptr, needC_t, ct, cf, bNT, bNF, bTA, bAT, bFA, bAF, bTO, bOT, bFO, bOF, dT, dF]; rw [r2, callK_some]; simp only [callK_some, asT_t, asI_int, asB_bool, asS_str, asL_list, asA_agg, consT_cons, endT_nil, asG_agg, asTup_tup, consV_cons, endV_nil, endB_nil, consB_cons, asArr_arr, asAv_av, asMp_map, asVar_var, isBuf_buf, isPtr_ptr, needC_t, ct, cf, bNT, bNF, bTA, bAT, bFA, bAF, bTO, bOT, bFO, bOF, dT, dF]; rw [needC_true n1, needC_true n2, r3, callK_some]; simp only [callK_some, asT_t, asI_int, asB_bool, asS_str, asL_list, asA_agg, consT_cons, endT_nil, asG_agg, asTup_tup, consV_cons, endV_nil, endB_nil, consB_cons, asArr_arr, asAv_av, asMp_map, asVar_var, isBuf_buf, isPtr_ptr, needC_t, ct, cf, bNT, bNF, bTA, bAT, bFA, bAF, bTO, bOT, bFO, bOF, dT, dF]
    rw [decide_eq_false hx1, decide_eq_false hx3]; rfl
  case inl.inr.inl =>
    rw [r1, callK_some]; simp only [callK_some, asT_t, asI_int, asB_bool, asS_str, asL_list, asA_agg, consT_cons, endT_nil, asG_agg, asTup_tup, consV_cons, endV_nil, endB_nil, consB_cons, asArr_arr, asAv_av, asMp_map, asVar_var, isBuf_buf, isPtr_ptr, needC_t, ct, cf, bNT, bNF, bTA, bAT, bFA, bAF, bTO, bOT, bFO, bOF, dT, dF]; rw [r2, callK_some]; simp only [callK_some, asT_t, asI_int, asB_bool, asS_str, asL_list, asA_agg, consT_cons, endT_nil, asG_agg, asTup_tup, consV_cons, endV_nil, endB_nil, consB_cons, asArr_arr, asAv_av, asMp_map, asVar_var, isBuf_buf, isPtr_ptr, needC_t, ct, cf, bNT, bNF, bTA, bAT, bFA, bAF, bTO, bOT, bFO, bOF, dT, dF]; rw [needC_true n1, needC_true n2, r3, callK_some]; simp only [callK_some, asT_t, asI_int, asB_bool, asS_str, asL_list, asA_agg, consT_cons, endT_nil, asG_agg, asTup_tup, consV_cons, endV_nil, endB_nil, consB_cons, asArr_arr, asAv_av, asMp_map, asVar_var, isBuf_buf, isPtr_ptr, needC_t, ct, cf, bNT, bNF, bTA, bAT, bFA, bAF, bTO, bOT, bFO, bOF, dT, dF]
    rw [decide_eq_false hx1, decide_eq_false hx3]; rfl
  case inr.inl.inl =>
    rw [r1, callK_some]; simp only [callK_some, asT_t, asI_int, asB_bool, asS_str, asL_list, asA_agg, consT_cons, endT_nil, asG_agg, asTup_tup, consV_cons, endV_nil, endB_nil, consB_cons, asArr_arr, asAv_av, asMp_map, asVar_var, isBuf_buf, isPtr_ptr, needC_t, ct, cf, bNT, bNF, bTA, bAT, bFA, bAF, bTO, bOT, bFO, bOF, dT, dF]; rw [r2, callK_some]; simp only [callK_some, asT_t, asI_int, asB_bool, asS_str, asL_list, asA_agg, consT_cons, endT_nil, asG_agg, asTup_tup, consV_cons, endV_nil, endB_nil, consB_cons, asArr_arr, asAv_av, asMp_map, asVar_var, isBuf_buf, isPtr_ptr, needC_t, ct, cf, bNT, bNF, bTA, bAT, bFA, bAF, bTO, bOT, bFO, bOF, dT, dF]; rw [needC_true n1, needC_true n2, r3, callK_some]; simp only [callK_some, asT_t, asI_int, asB_bool, asS_str, asL_list, asA_agg, consT_cons, endT_nil, asG_agg, asTup_tup, consV_cons, endV_nil, endB_nil, consB_cons, asArr_arr, asAv_av, asMp_map, asVar_var, isBuf_buf, isPtr_ptr, needC_t, ct, cf, bNT, bNF, bTA, bAT, bFA, bAF, bTO, bOT, bFO, bOF, dT, dF]
    rw [decide_eq_false hx2, decide_eq_false hx3]; rfl
  case inr.inr.inl =>
    rw [r1, callK_some]; simp only [callK_some, asT_t, asI_int, asB_bool, asS_str, asL_list, asA_agg, consT_cons, endT_nil, asG_agg, asTup_tup, consV_cons, endV_nil, endB_nil, consB_cons, asArr_arr, asAv_av, asMp_map, asVar_var, isBuf_buf, isPtr_ptr, needC_t, ct, cf, bNT, bNF, bTA, bAT, bFA, bAF, bTO, bOT, bFO, bOF, dT, dF]; rw [r2, callK_some]; simp only [callK_some, asT_t, asI_int, asB_bool, asS_str, asL_list, asA_agg, consT_cons, endT_nil, asG_agg, asTup_tup, consV_cons, endV_nil, endB_nil, consB_cons, asArr_arr, asAv_av, asMp_map, asVar_var, isBuf_buf, isPtr_ptr, needC_t, ct, cf, bNT, bNF, bTA, bAT, bFA, bAF, bTO, bOT, bFO, bOF, dT, dF]; rw [needC_true n1, needC_true n2, r3, callK_some]; simp only [callK_some, asT_t, asI_int, asB_bool, asS_str, asL_list, asA_agg, consT_cons, endT_nil, asG_agg, asTup_tup, consV_cons, endV_nil, endB_nil, consB_cons, asArr_arr, asAv_av, asMp_map, asVar_var, isBuf_buf, isPtr_ptr, needC_t, ct, cf, bNT, bNF, bTA, bAT, bFA, bAF, bTO, bOT, bFO, bOF, dT, dF]
    rw [decide_eq_false hx3]; rfl
  case inl.inl.inr => exact absurd (make_good.2 (make_good.1 g3).left) b1
  case inl.inr.inr => exact absurd (make_good.2 (make_good.1 g3).left) b1
  case inr.inl.inr => exact absurd (make_good.2 (make_good.1 g3).right) b2
  case inr.inr.inr =>
    have h := make_good.1 g3
    have q1 := below13 (pz := p1) (cz := c1) ga.length g1.2 (by have := pos_small k ga (by omega); omega)
    have q2 := below13 (pz := p2) (cz := c2) gb.length g2.2 (by have := pos_small k gb (by omega); omega)
    have hp3 := pos_small k (ga ++ gb) (by rw [List.length_append]; omega)
    have q3 := below13 (pz := p3) (cz := c3) (ga ++ gb).length g3.2 (by omega)
    rw [below_made h.left] at q1
    rw [below_made h.right] at q2
    rw [below_made h, below_app] at q3
    have s1 := below_small h.left
    have s2 := below_small h.right
    have e3 : (ga.length : Int) + (gb.length : Int) = ((ga ++ gb).length : Int) := by rw [List.length_append]; omega
    have e4 : ((belowG k s ga + belowG k s gb : Nat) : Int) = IntKind.i64.wrap ((belowG k s ga : Int) + (belowG k s gb : Int)) := by rw [wrap64 (by omega) (by omega)]; omega
    have fin := L417_spec h (by omega) az A bz B hA hB (pos_small k gb (by omega)) hp3 p2 c2 p3 c3 gb.length 0 (by omega)
    rw [r1, callK_some]; simp only [callK_some, asT_t, asI_int, asB_bool, asS_str, asL_list, asA_agg, consT_cons, endT_nil, asG_agg, asTup_tup, consV_cons, endV_nil, endB_nil, consB_cons, asArr_arr, asAv_av, asMp_map, asVar_var, isBuf_buf, isPtr_ptr, needC_t, ct, cf, bNT, bNF, bTA, bAT, bFA, bAF, bTO, bOT, bFO, bOF, dT, dF]; rw [r2, callK_some]; simp only [callK_some, asT_t, asI_int, asB_bool, asS_str, asL_list, asA_agg, consT_cons, endT_nil, asG_agg, asTup_tup, consV_cons, endV_nil, endB_nil, consB_cons, asArr_arr, asAv_av, asMp_map, asVar_var, isBuf_buf, isPtr_ptr, needC_t, ct, cf, bNT, bNF, bTA, bAT, bFA, bAF, bTO, bOT, bFO, bOF, dT, dF]; rw [needC_true n1, needC_true n2, r3, callK_some]; simp only [callK_some, asT_t, asI_int, asB_bool, asS_str, asL_list, asA_agg, consT_cons, endT_nil, asG_agg, asTup_tup, consV_cons, endV_nil, endB_nil, consB_cons, asArr_arr, asAv_av, asMp_map, asVar_var, isBuf_buf, isPtr_ptr, needC_t, ct, cf, bNT, bNF, bTA, bAT, bFA, bAF, bTO, bOT, bFO, bOF, dT, dF]
    rw [hA', q1, callK_some]
    simp only [callK_some, asT_t, asI_int, asB_bool, asS_str, asL_list, asA_agg, consT_cons, endT_nil, asG_agg, asTup_tup, consV_cons, endV_nil, endB_nil, consB_cons, asArr_arr, asAv_av, asMp_map, asVar_var, isBuf_buf, isPtr_ptr, needC_t, ct, cf, bNT, bNF, bTA, bAT, bFA, bAF, bTO, bOT, bFO, bOF, dT, dF]
    rw [hB', q2, callK_some]
    simp only [callK_some, asT_t, asI_int, asB_bool, asS_str, asL_list, asA_agg, consT_cons, endT_nil, asG_agg, asTup_tup, consV_cons, endV_nil, endB_nil, consB_cons, asArr_arr, asAv_av, asMp_map, asVar_var, isBuf_buf, isPtr_ptr, needC_t, ct, cf, bNT, bNF, bTA, bAT, bFA, bAF, bTO, bOT, bFO, bOF, dT, dF]
    rw [e3, q3, callK_some]
    simp only [callK_some, asT_t, asI_int, asB_bool, asS_str, asL_list, asA_agg, consT_cons, endT_nil, asG_agg, asTup_tup, consV_cons, endV_nil, endB_nil, consB_cons, asArr_arr, asAv_av, asMp_map, asVar_var, isBuf_buf, isPtr_ptr, needC_t, ct, cf, bNT, bNF, bTA, bAT, bFA, bAF, bTO, bOT, bFO, bOF, dT, dF]
    rw [decide_eq_true e4, bNT, cf, whole14, callK_some, asT_t, asB_bool, endB_nil]
    rw [hB'] at fin
    cases hw : whole k with
    | false => rw [cf]; exact fin
    | true =>
      rw [ct]
      by_cases hs : 200 < s
      · rw [decide_eq_true hs, ct]
      · rw [decide_eq_false hs, cf]; exact fin
theorem wts_ints : ∀ g : List Int, wts (ints g) = g.length
  | [] => by simp [wts]
  | x :: g => by
    show wts (.int .i64 x :: ints g) = _
    rw [wts, wt, wts_ints g, List.length_cons]; omega
theorem wts_groups {r : List T} {gs : List (List Int)} (h : IsG r gs) : total gs + gs.length ≤ wts r := by
  unfold IsG at h
  induction h with
  | nil => show 0 + 0 ≤ _; omega
  | cons a _ ih =>
    obtain ⟨z, rfl⟩ := a
    rw [wts, wt, wts_ints]
    show _ + total _ + (List.length _ + 1) ≤ _
    omega
theorem joins_upto (k s : Int) (x2 : T) (f2 : FitT grTy false x2) (x3 : T) (f3 : FitT grTy false x3) (hb : wt x2 + wt x3 ≤ 1048576) : ∃ st, vr 4 0 [.t (.int .i64 k), .t (.int .i64 s), .t x2, .t x3] ⟨[], []⟩ = some (.t (.bool true), st) := by
  obtain ⟨az, A, ga, rfl, hA, _⟩ := groups_of f2
  obtain ⟨bz, B, gb, rfl, hB, _⟩ := groups_of f3
  have h1 := wts_groups hA
  have h2 := wts_groups hB
  rw [wt, wt] at hb
  exact ⟨e0, joins_core k s az A ga hA bz B gb hB (by omega) (by omega) (by omega)⟩
end Go.Proofs.Ytejfkiohnoiagaa.VM
end

section
namespace Go.Proofs.Ytejfkiohnoiagaa.VM
set_option linter.unusedSectionVars false
open Go AM
section
variable {k s : Int} {pz cz : Bool} {pos crd : List Int}
theorem many40 (ahead : Nat) (ha : ahead ≤ 1048576) (hs : 0 ≤ s) (hs2 : s ≤ 2147483648) : vr 40 0 [.t (lvT k s pz pos cz crd), .t (.int .i64 (ahead : Int))] e0 = some (.t (.int .i64 (belowN k s crd (ahead : Int))), e0) := by
  rw [eq40, R40, rwhole21, callK_some, asT_t, asB_bool, endB_nil]
  unfold belowN
  cases whole k with
  | true =>
    have h1 := Int.mul_le_mul (by omega : (ahead : Int) ≤ 1048576) hs2 hs (by omega)
    have h2 := Int.mul_nonneg (by omega : 0 ≤ (ahead : Int)) hs
    rw [ct, wrap64 (by omega) (by omega), if_pos rfl]
  | false => rw [cf, ints_len, if_neg (by simp)]
theorem L4214_spec (n : Nat) (hn : n ≤ 1048576) (hl : pos.length = n + 1) : ∀ (m i : Nat), m + i = n →
    ((∃ j, i ≤ j ∧ j < n ∧ nth pos (j + 1) < nth pos j) ∧ L42_14 (n : Int) (i : Int) k s pz (ints pos) cz (ints crd) = some (.t (.int .i64 1), e0)) ∨
    ((∀ j, i ≤ j → j < n → nth pos j ≤ nth pos (j + 1)) ∧ L42_14 (n : Int) (i : Int) k s pz (ints pos) cz (ints crd) = some (.t (.int .i64 0), e0))
  | 0, i, h => by
    have d : decide ((i : Int) < (n : Int)) = false := decide_eq_false (by omega)
    rw [L42_14_eq, RL42_14, d, cf]
    exact .inr ⟨fun j h1 h2 => by omega, rfl⟩
  | m + 1, i, h => by
    have d : decide ((i : Int) < (n : Int)) = true := decide_eq_true (by omega)
    have ih := L4214_spec n hn hl m (i + 1) (by omega)
    rw [L42_14_eq, RL42_14, d, ct, natWrap (by omega), needNat, Int.toNat_natCast, getI (by omega), needNat, Int.toNat_natCast, getI (by omega)]
    by_cases hlt : nth pos (i + 1) < nth pos i
    · rw [decide_eq_true hlt, ct]
      exact .inl ⟨⟨i, by omega, by omega, hlt⟩, rfl⟩
    · rw [decide_eq_false hlt, cf]
      rcases ih with ⟨⟨j, h1, h2, h3⟩, h4⟩ | ⟨h1, h2⟩
      · exact .inl ⟨⟨j, by omega, h2, h3⟩, h4⟩
      · refine .inr ⟨fun j h3 h4 => ?_, h2⟩
        by_cases hj : j = i
        · subst hj; omega
        · exact h1 j (by omega) h4
theorem sorted_iff (n : Nat) (hl : pos.length = n + 1) : Sorted pos ↔ ∀ j, 0 ≤ j → j < n → nth pos j ≤ nth pos (j + 1) := by
  constructor
  · intro h j _ hj
    have := h (j + 1) (by omega) (by omega)
    simpa using this
  · intro h j h1 h2
    have := h (j - 1) (by omega) (by omega)
    have e : j - 1 + 1 = j := by omega
    rwa [e] at this
theorem form42 (n : Nat) (hn : n ≤ 1048576) (hp : pos.length ≤ 4611686018427387903) (hc : crd.length ≤ 4611686018427387903) : ∃ e : Int, vr 42 0 [.t (lvT k s pz pos cz crd), .t (.int .i64 (n : Int))] e0 = some (.t (.int .i64 e), e0) ∧ ((e = 0 ∧ Formed k s pos crd (n : Int)) ∨ (e = 1 ∧ ¬ Formed k s pos crd (n : Int))) := by
  have no : ¬ Formed k s pos crd (n : Int) → ∃ e : Int, (some (V.t (.int .i64 1), e0) : Option Res) = some (.t (.int .i64 e), e0) ∧ ((e = 0 ∧ Formed k s pos crd (n : Int)) ∨ (e = 1 ∧ ¬ Formed k s pos crd (n : Int))) := fun h => ⟨1, rfl, .inr ⟨rfl, h⟩⟩
  have yes : Formed k s pos crd (n : Int) → ∃ e : Int, (some (V.t (.int .i64 0), e0) : Option Res) = some (.t (.int .i64 e), e0) ∧ ((e = 0 ∧ Formed k s pos crd (n : Int)) ∨ (e = 1 ∧ ¬ Formed k s pos crd (n : Int))) := fun h => ⟨0, rfl, .inl ⟨rfl, h⟩⟩
  have tail : (k = 1 ∨ k = 2) → ∃ e : Int, (bif (!decide (((ints pos).length : Int) = (IntKind.i64.wrap ((n : Int) + 1)))) then
        (some ((.t (.int .i64 1)), e0) : Option Res)
      else
        needC (decide (0 ≤ 0)) fun _ =>
        getT (ints pos) ((0 : Int)).toNat fun e_9 =>
        asI .i64 e_9 fun x_10 =>
      (bif (!decide (x_10 = 0)) then
        some ((.t (.int .i64 1)), e0)
      else
        needC (decide (0 ≤ (n : Int))) fun _ =>
        getT (ints pos) ((n : Int)).toNat fun e_11 =>
        asI .i64 e_11 fun x_12 =>
      (bif (!decide (x_12 = ((ints crd).length : Int))) then
        some ((.t (.int .i64 1)), e0)
      else
        L42_14 (n : Int) 0 k s pz (ints pos) cz (ints crd)))) = some (.t (.int .i64 e), e0) ∧ ((e = 0 ∧ Formed k s pos crd (n : Int)) ∨ (e = 1 ∧ ¬ Formed k s pos crd (n : Int))) := by
    intro hk
    have key : Formed k s pos crd (n : Int) ↔ (pos.length : Int) = (n : Int) + 1 ∧ nth pos 0 = 0 ∧ nth pos n = (crd.length : Int) ∧ Sorted pos := by
      constructor
      · intro h
        rcases h with ⟨h, _⟩ | ⟨h, _⟩ | ⟨_, h1, h2, h3, h4⟩
        · omega
        · omega
        · rw [Int.toNat_natCast] at h3; exact ⟨h1, h2, h3, h4⟩
      · rintro ⟨h1, h2, h3, h4⟩
        exact .inr (.inr ⟨hk, h1, h2, by rw [Int.toNat_natCast]; exact h3, h4⟩)
    rw [ints_len, ints_len, natWrap (by omega)]
    by_cases h1 : (pos.length : Int) = ((n + 1 : Nat) : Int)
    · have hl : pos.length = n + 1 := by omega
      rw [decide_eq_true h1, bNT, cf, need00]
      have e00 : ((0 : Int)).toNat = 0 := rfl
      rw [e00, getI (by omega)]
      by_cases h2 : nth pos 0 = 0
      · rw [decide_eq_true h2, bNT, cf, needNat, Int.toNat_natCast, getI (by omega)]
        by_cases h3 : nth pos n = (crd.length : Int)
        · rw [decide_eq_true h3, bNT, cf]
          rcases L4214_spec (k := k) (s := s) (pz := pz) (cz := cz) (crd := crd) n hn hl n 0 (by omega) with ⟨⟨j, a1, a2, a3⟩, a4⟩ | ⟨a1, a2⟩
          · refine ⟨1, a4, .inr ⟨rfl, fun h => ?_⟩⟩
            have := (sorted_iff n hl).1 (key.1 h).2.2.2 j a1 a2
            omega
          · exact ⟨0, a2, .inl ⟨rfl, key.2 ⟨by omega, h2, h3, (sorted_iff n hl).2 a1⟩⟩⟩
        · rw [decide_eq_false h3, bNF, ct]; exact no fun h => h3 (key.1 h).2.2.1
      · rw [decide_eq_false h2, bNF, ct]; exact no fun h => h2 (key.1 h).2.1
    · rw [decide_eq_false h1, bNF, ct]; exact no fun h => h1 (by have := (key.1 h).1; omega)
  rw [eq42, R42, rwhole21, callK_some, asT_t, asB_bool, endB_nil]
  cases hw : whole k with
  | true =>
    have hk : k = 0 ∨ k = 4 := by
      unfold whole at hw
      simpa using hw
    rw [ct, ints_len, ints_len, wrap64 (by omega) (by omega)]
    by_cases h1 : 0 < (pos.length : Int) + (crd.length : Int)
    · rw [decide_eq_true h1, ct]
      refine no fun h => ?_
      rcases h with ⟨_, rfl, rfl⟩ | ⟨h, _⟩ | ⟨h, _⟩
      · simp at h1
      · omega
      · omega
    · rw [decide_eq_false h1, cf]
      have hpos : pos = [] := List.length_eq_zero_iff.1 (by omega)
      have hcrd : crd = [] := List.length_eq_zero_iff.1 (by omega)
      by_cases h4 : k = 4
      · rw [decide_eq_true h4, ct]
        by_cases hs : s = 0
        · rw [decide_eq_true hs, ct]
          refine no fun h => ?_
          rcases h with ⟨h | ⟨_, h⟩, _⟩ | ⟨h, _⟩ | ⟨h, _⟩
          · omega
          · exact h hs
          · omega
          · omega
        · rw [decide_eq_false hs, cf]
          exact yes (.inl ⟨.inr ⟨h4, hs⟩, hpos, hcrd⟩)
      · rw [decide_eq_false h4, cf]
        exact yes (.inl ⟨.inl (by omega), hpos, hcrd⟩)
  | false =>
    have hk : k ≠ 0 ∧ k ≠ 4 := by
      unfold whole at hw
      simpa using hw
    rw [cf]
    by_cases h3 : k = 3
    · rw [decide_eq_true h3, ct, ints_len, ints_len]
      by_cases h1 : 0 < (pos.length : Int)
      · rw [decide_eq_true h1, ct]
        refine no fun h => ?_
        rcases h with ⟨h, _⟩ | ⟨_, rfl, _⟩ | ⟨h, _⟩
        · omega
        · simp at h1
        · omega
      · rw [decide_eq_false h1, cf]
        by_cases h2 : (crd.length : Int) = (n : Int)
        · rw [decide_eq_true h2, bNT, cf]
          exact yes (.inr (.inl ⟨h3, List.length_eq_zero_iff.1 (by omega), h2⟩))
        · rw [decide_eq_false h2, bNF, ct]
          refine no fun h => ?_
          rcases h with ⟨h, _⟩ | ⟨_, _, h⟩ | ⟨h, _⟩
          · omega
          · exact h2 h
          · omega
    · rw [decide_eq_false h3, cf]
      by_cases h1 : k = 1
      · rw [decide_eq_true h1, bNT, cf]; exact tail (.inl h1)
      · rw [decide_eq_false h1, bNF, ct]
        by_cases h2 : k = 2
        · rw [decide_eq_true h2, bNT, cf]; exact tail (.inr h2)
        · rw [decide_eq_false h2, bNF, ct]
          refine no fun h => ?_
          rcases h with ⟨h, _⟩ | ⟨h, _⟩ | ⟨h, _⟩ <;> omega
theorem L289_spec (n : Int) (hc : crd.length ≤ 4611686018427387903) : ∀ (m i : Nat), m + i = crd.length →
    ((∃ j, i ≤ j ∧ j < crd.length ∧ (nth crd j < 0 ∨ s ≤ nth crd j)) ∧ L28_9 n cz (ints crd) (crd.length : Int) (i : Int) k s pz (ints pos) cz (ints crd) = some (.t (.int .i64 3), e0)) ∨
    ((∀ j, i ≤ j → j < crd.length → 0 ≤ nth crd j ∧ nth crd j < s) ∧ L28_9 n cz (ints crd) (crd.length : Int) (i : Int) k s pz (ints pos) cz (ints crd) = L28_9 n cz (ints crd) (crd.length : Int) (crd.length : Int) k s pz (ints pos) cz (ints crd))
  | 0, i, h => by
    have e : i = crd.length := by omega
    subst e
    exact .inr ⟨fun j h1 h2 => by omega, rfl⟩
  | m + 1, i, h => by
    have d : decide ((i : Int) < (crd.length : Int)) = true := decide_eq_true (by omega)
    have ih := L289_spec n hc m (i + 1) (by omega)
    have eq : L28_9 n cz (ints crd) (crd.length : Int) (i : Int) k s pz (ints pos) cz (ints crd) = (bif decide (nth crd i < 0) then some (.t (.int .i64 3), e0) else bif decide (s ≤ nth crd i) then some (.t (.int .i64 3), e0) else L28_9 n cz (ints crd) (crd.length : Int) ((i + 1 : Nat) : Int) k s pz (ints pos) cz (ints crd)) := by
      conv => lhs; rw [L28_9_eq, RL28_9, d, ct, needNat, Int.toNat_natCast, getI (by omega), natWrap (by omega)]
    rw [eq]
    by_cases h1 : nth crd i < 0
    · rw [decide_eq_true h1, ct]
      exact .inl ⟨⟨i, by omega, by omega, .inl h1⟩, rfl⟩
    rw [decide_eq_false h1, cf]
    by_cases h2 : s ≤ nth crd i
    · rw [decide_eq_true h2, ct]
      exact .inl ⟨⟨i, by omega, by omega, .inr h2⟩, rfl⟩
    rw [decide_eq_false h2, cf]
    rcases ih with ⟨⟨j, a1, a2, a3⟩, a4⟩ | ⟨a1, a2⟩
    · exact .inl ⟨⟨j, by omega, a2, a3⟩, a4⟩
    · refine .inr ⟨fun j h3 h4 => ?_, a2⟩
      by_cases hj : j = i
      · subst hj; omega
      · exact a1 j (by omega) h4
/-- What is asked of neighbours. -/
def okJ (k : Int) (crd : List Int) (j : Nat) : Prop := (if k = 2 then (0 : Int) else 1) ≤ nth crd j - nth crd (j - 1)
theorem L2820_spec (hk : k = 1 ∨ k = 2) (n p a b : Nat) (hn : n ≤ 1048576) (hl : pos.length = n + 1) (hp : p < n) (hb : nth pos (p + 1) = (b : Int)) (hbl : b ≤ crd.length) (hc : crd.length ≤ 65536) (hr : ∀ c ∈ crd, 0 ≤ c ∧ c < 2147483648) : ∀ (m i : Nat), b ≤ m + i → 1 ≤ i → a + 1 ≤ i → i ≤ 65537 →
    ((∃ j, i ≤ j ∧ j < b ∧ ¬ okJ k crd j) ∧ L28_20 (p : Int) (i : Int) (n : Int) (p : Int) k s pz (ints pos) cz (ints crd) = some (.t (.int .i64 1), e0)) ∨
    ((∀ j, i ≤ j → j < b → okJ k crd j) ∧ L28_20 (p : Int) (i : Int) (n : Int) (p : Int) k s pz (ints pos) cz (ints crd) = L28_17 (n : Int) ((p + 1 : Nat) : Int) k s pz (ints pos) cz (ints crd))
  | m, i, h, h1, ha, hi => by
    by_cases hib : i < b
    · match m, h with
      | 0, h => omega
      | m + 1, h =>
        have d : decide ((i : Int) < (b : Int)) = true := decide_eq_true (by omega)
        have ih := L2820_spec hk n p a b hn hl hp hb hbl hc hr m (i + 1) (by omega) (by omega) (by omega) (by omega)
        have hw : IntKind.i64.wrap ((i : Int) - 1) = ((i - 1 : Nat) : Int) := by rw [wrap64 (by omega) (by omega)]; omega
        have more : okJ k crd i → ((∃ j, i ≤ j ∧ j < b ∧ ¬ okJ k crd j) ∧ L28_20 (p : Int) ((i + 1 : Nat) : Int) (n : Int) (p : Int) k s pz (ints pos) cz (ints crd) = some (.t (.int .i64 1), e0)) ∨
            ((∀ j, i ≤ j → j < b → okJ k crd j) ∧ L28_20 (p : Int) ((i + 1 : Nat) : Int) (n : Int) (p : Int) k s pz (ints pos) cz (ints crd) = L28_17 (n : Int) ((p + 1 : Nat) : Int) k s pz (ints pos) cz (ints crd)) := by
          intro ho
          rcases ih with ⟨⟨j, a1, a2, a3⟩, a4⟩ | ⟨a1, a2⟩
          · exact .inl ⟨⟨j, by omega, a2, a3⟩, a4⟩
          · refine .inr ⟨fun j h3 h4 => ?_, a2⟩
            by_cases hj : j = i
            · subst hj; exact ho
            · exact a1 j (by omega) h4
        rw [L28_20_eq, RL28_20, natWrap (by omega), needNat, Int.toNat_natCast, getI (by omega), hb, d, ct, needNat, Int.toNat_natCast, getI (by omega), hw, needNat, Int.toNat_natCast, getI (by omega)]
        by_cases hlt : nth crd i < nth crd (i - 1)
        · rw [decide_eq_true hlt, ct]
          refine .inl ⟨⟨i, by omega, hib, fun ho => ?_⟩, rfl⟩
          unfold okJ at ho
          split at ho <;> omega
        rw [decide_eq_false hlt, cf]
        by_cases h2 : k = 1
        · rw [decide_eq_true h2, ct, needNat, getI (by omega), needNat, getI (by omega)]
          by_cases he : nth crd i = nth crd (i - 1)
          · rw [decide_eq_true he, ct]
            refine .inl ⟨⟨i, by omega, hib, fun ho => ?_⟩, rfl⟩
            unfold okJ at ho
            rw [if_neg (by omega : ¬ k = 2)] at ho
            omega
          · rw [decide_eq_false he, cf, natWrap (by omega)]
            exact more (by unfold okJ; rw [if_neg (by omega : ¬ k = 2)]; omega)
        · rw [decide_eq_false h2, cf, natWrap (by omega)]
          have k2 : k = 2 := hk.resolve_left h2
          have hge : nth crd (i - 1) ≤ nth crd i := Int.not_lt.1 hlt
          exact more (by unfold okJ; rw [if_pos k2]; exact Int.sub_nonneg_of_le hge)
    · have d : decide ((i : Int) < (b : Int)) = false := decide_eq_false (by omega)
      rw [L28_20_eq, RL28_20, natWrap (by omega), needNat, Int.toNat_natCast, getI (by omega), hb, d, cf]
      exact .inr ⟨fun j h1 h2 => by omega, rfl⟩
theorem L2817_spec (hk : k = 1 ∨ k = 2) (n : Nat) (hn : n ≤ 1048576) (hl : pos.length = n + 1) (h0 : nth pos 0 = 0) (hlast : nth pos n = (crd.length : Int)) (hs : Sorted pos) (hc : crd.length ≤ 65536) (hr : ∀ c ∈ crd, 0 ≤ c ∧ c < 2147483648) : ∀ (m p : Nat), m + p = n →
    ((∃ q, p ≤ q ∧ q < n ∧ ∃ i : Nat, nth pos q < (i : Int) ∧ (i : Int) < nth pos (q + 1) ∧ ¬ okJ k crd i) ∧ L28_17 (n : Int) (p : Int) k s pz (ints pos) cz (ints crd) = some (.t (.int .i64 1), e0)) ∨
    ((∀ q, p ≤ q → q < n → ∀ i : Nat, nth pos q < (i : Int) → (i : Int) < nth pos (q + 1) → okJ k crd i) ∧ L28_17 (n : Int) (p : Int) k s pz (ints pos) cz (ints crd) = some (.t (.int .i64 0), e0))
  | 0, p, h => by
    have d : decide ((p : Int) < (n : Int)) = false := decide_eq_false (by omega)
    rw [L28_17_eq, RL28_17, d, cf]
    exact .inr ⟨fun q h1 h2 => by omega, rfl⟩
  | m + 1, p, h => by
    have d : decide ((p : Int) < (n : Int)) = true := decide_eq_true (by omega)
    have ih := L2817_spec hk n hn hl h0 hlast hs hc hr m (p + 1) (by omega)
    have m1 := sorted_le hs p 0 (by omega) (by omega)
    have m2 := sorted_le hs (p + 1) p (by omega) (by omega)
    have m3 := sorted_le hs n (p + 1) (by omega) (by omega)
    obtain ⟨a, ha⟩ : ∃ a : Nat, nth pos p = (a : Int) := ⟨(nth pos p).toNat, by omega⟩
    obtain ⟨b, hb⟩ : ∃ b : Nat, nth pos (p + 1) = (b : Int) := ⟨(nth pos (p + 1)).toNat, by omega⟩
    rw [L28_17_eq, RL28_17, d, ct, needNat, Int.toNat_natCast, getI (by omega), ha, natWrap (by omega)]
    rcases L2820_spec (s := s) (pz := pz) (cz := cz) hk n p a b hn hl (by omega) hb (by omega) hc hr (b - a) (a + 1) (by omega) (by omega) (by omega) (by omega) with ⟨⟨j, a1, a2, a3⟩, a4⟩ | ⟨a1, a2⟩
    · exact .inl ⟨⟨p, by omega, by omega, j, by omega, by omega, a3⟩, a4⟩
    · rw [a2]
      rcases ih with ⟨⟨q, b1, b2, b3⟩, b4⟩ | ⟨b1, b2⟩
      · exact .inl ⟨⟨q, by omega, b2, b3⟩, b4⟩
      · refine .inr ⟨fun q h1 h2 i h3 h4 => ?_, b2⟩
        by_cases hq : q = p
        · subst hq; exact a1 i (by omega) (by omega)
        · exact b1 q (by omega) h2 i h3 h4
/-- The reference's check tells the same. -/
theorem check28 (ahead : Int) (hp : pos.length ≤ 4611686018427387903) (hc : crd.length ≤ 4611686018427387903) : vr 28 0 [.t (lvT k s pz pos cz crd), .t (.int .i64 ahead)] e0 = some (.t (.int .i64 (checkE k s pos crd ahead)), e0) := by
  rw [eq28, R28]
  by_cases g1 : ahead < 0
  · rw [decide_eq_true g1, ct, checkE1 (by omega)]
  rw [decide_eq_false g1, cf]
  by_cases g2 : 1048576 < ahead
  · rw [decide_eq_true g2, ct, checkE1 (by omega)]
  rw [decide_eq_false g2, cf]
  by_cases g3 : s < 0
  · rw [decide_eq_true g3, ct, checkE1 (by omega)]
  rw [decide_eq_false g3, cf]
  by_cases g4 : 2147483648 < s
  · rw [decide_eq_true g4, ct, checkE1 (by omega)]
  rw [decide_eq_false g4, cf]
  obtain ⟨n, rfl⟩ : ∃ n : Nat, ahead = (n : Int) := ⟨ahead.toNat, by omega⟩
  obtain ⟨e, h1, h2⟩ := form42 (k := k) (s := s) (pz := pz) (cz := cz) (pos := pos) (crd := crd) n (by omega) hp hc
  rw [h1, callK_some, asT_t, asI_int, endB_nil]
  rcases h2 with ⟨rfl, hf⟩ | ⟨rfl, hf⟩
  · rw [decide_eq_true rfl, bNT, cf, ints_len]
    by_cases g5 : (65536 : Int) < (crd.length : Int)
    · rw [decide_eq_true g5, ct, checkE3 (by omega) hf (.inl g5)]
    rw [decide_eq_false g5, cf, many40 n (by omega) (by omega) (by omega), callK_some, asT_t, asI_int, endB_nil]
    by_cases g6 : 1048576 < belowN k s crd (n : Int)
    · rw [decide_eq_true g6, ct, checkE3 (by omega) hf (.inr g6)]
    rw [decide_eq_false g6, cf]
    rcases L289_spec (k := k) (s := s) (pz := pz) (cz := cz) (pos := pos) (crd := crd) (n : Int) hc crd.length 0 (by omega) with ⟨⟨j, a1, a2, a3⟩, a4⟩ | ⟨a1, a2⟩
    · refine Eq.trans a4 ?_
      rw [checkE4 (by omega) hf (by omega) ⟨_, nth_mem a2, a3⟩]
    · refine Eq.trans a2 ?_
      have hrng : ¬ ∃ c ∈ crd, c < 0 ∨ s ≤ c := by
        rintro ⟨c, hc, hcc⟩
        obtain ⟨j, hj⟩ := List.getElem?_of_mem hc
        have hjl : j < crd.length := (List.getElem?_eq_some_iff.1 hj).1
        rw [nth_at hjl] at hj
        cases hj
        have := a1 j (by omega) hjl
        omega
      have d : decide ((crd.length : Int) < (crd.length : Int)) = false := decide_eq_false (by omega)
      rw [L28_9_eq, RL28_9, d, cf, rwhole21, callK_some, asT_t, asB_bool, endB_nil]
      have nok : ¬ (k = 1 ∨ k = 2) → checkE k s pos crd (n : Int) = 0 := fun h => checkE0 (by omega) hf (by omega) hrng fun h' => absurd h' h
      cases hw : whole k with
      | true =>
        have hk : k = 0 ∨ k = 4 := by
          unfold whole at hw
          simpa using hw
        rw [ct, nok (by omega)]
      | false =>
        rw [cf]
        by_cases h3 : k = 3
        · rw [decide_eq_true h3, ct, nok (by omega)]
        · rw [decide_eq_false h3, cf]
          rcases hf with ⟨h, _⟩ | ⟨h, _⟩ | ⟨hk, f1, f2, f3, f4⟩
          · exfalso; unfold whole at hw; rcases h with rfl | ⟨rfl, _⟩ <;> simp at hw
          · exact absurd h h3
          · have hf : Formed k s pos crd (n : Int) := .inr (.inr ⟨hk, f1, f2, f3, f4⟩)
            rw [Int.toNat_natCast] at f3
            rcases L2817_spec (s := s) (pz := pz) (cz := cz) hk n (by omega) (by omega) f2 f3 f4 (by omega) (fun c hc => by
                have : ¬ (c < 0 ∨ s ≤ c) := fun h => hrng ⟨c, hc, h⟩
                omega) n 0 (by omega) with ⟨⟨q, b1, b2, i, b3, b4, b5⟩, b6⟩ | ⟨b1, b2⟩
            · refine Eq.trans b6 ?_
              rw [checkE5 (by omega) hf (by omega) hrng fun h => b5 (by have := h hk q (by rw [Int.toNat_natCast]; exact b2) i b3 b4; exact this)]
            · refine Eq.trans b2 ?_
              rw [checkE0 (by omega) hf (by omega) hrng fun _ q hq i h1 h2 => b1 q (by omega) (by rw [Int.toNat_natCast] at hq; exact hq) i h1 h2]
  · rw [decide_eq_false (by omega : ¬ (1 : Int) = 0), bNF, ct, checkE2 (by omega) hf]
end
end Go.Proofs.Ytejfkiohnoiagaa.VM
end

section
namespace Go.Proofs.Ytejfkiohnoiagaa.VM
set_option linter.unusedSectionVars false
open Go AM
open Classical in
/-- What is wrong with groups. -/
noncomputable def makeE (k s : Int) (gs : List (List Int)) : Int := if k = 3 ∧ ∃ g ∈ gs, g.length ≠ 1 then 1 else checkE k s (mkPos k gs) (mkCrd k gs) (gs.length : Int)
theorem makeE1 {k s : Int} {gs : List (List Int)} (h : k = 3 ∧ ∃ g ∈ gs, g.length ≠ 1) : makeE k s gs = 1 := by unfold makeE; rw [if_pos h]
theorem makeE2 {k s : Int} {gs : List (List Int)} (h : ¬ (k = 3 ∧ ∃ g ∈ gs, g.length ≠ 1)) : makeE k s gs = checkE k s (mkPos k gs) (mkCrd k gs) (gs.length : Int) := by unfold makeE; rw [if_neg h]
theorem czOr {crd : List Int} {cz : Bool} (g : List Int) (h : crd ≠ [] → cz = true) : crd ++ g ≠ [] → (cz || (!(ints g).isEmpty)) = true := by
  intro hn
  cases g with
  | nil => rw [h (by simpa using hn)]; rfl
  | cons x g => show (cz || true) = true; cases cz <;> rfl
abbrev errR (e : Int) : Option Res := some (.tup [.agg [.t (.int .i64 0), .t (.int .i64 0), .t (.list 1 false []), .buf 500], .t (.int .i64 e)], ⟨[(500, .arr true 1 false [])], [500]⟩)
abbrev okR (k s : Int) (pz : Bool) (pos : List Int) (cz : Bool) (crd : List Int) : Option Res := some (.tup [.agg [.t (.int .i64 k), .t (.int .i64 s), .t (.list 1 pz (ints pos)), .buf 500], .t (.int .i64 0)], ⟨[(500, .arr true 1 cz (ints crd))], [500]⟩)
theorem make_finv (k s : Int) (pz cz : Bool) (pos crd : List Int) (n : Int) (hp : pos.length ≤ 9223372036854775807) (hc : crd.length ≤ 9223372036854775806) :
    ∃ q : Option Res, (callK (vr 19 0 [(.t (lvT k s pz pos cz crd)), (.t (.int .i64 n))] ⟨[], []⟩) fun v_4 b_5 =>
      asT v_4 fun x_6 => asI .i64 x_6 fun x_7 => endB b_5 <|
      (bif (!decide (x_7 = 0)) then errR x_7 else okR k s pz pos cz crd)) = q ∧
      ((∃ e : Int, e ≠ 0 ∧ q = errR e ∧ e = checkE k s pos crd n) ∨ (q = okR k s pz pos cz crd ∧ checkE k s pos crd n = 0)) := by
  obtain ⟨e, h1, h2, _, _, h3⟩ := check19 (k := k) (s := s) (pz := pz) (cz := cz) (pos := pos) (crd := crd) n hp hc
  rw [h1, callK_some, asT_t, asI_int, endB_nil]
  by_cases he : e = 0
  · rw [decide_eq_true he, bNT, cf]
    exact ⟨_, rfl, .inr ⟨rfl, by rw [← h3]; exact he⟩⟩
  · rw [decide_eq_false he, bNF, ct]
    exact ⟨_, rfl, .inl ⟨e, he, rfl, h3⟩⟩
theorem L10v_spec (k s : Int) (gz tz : Bool) (r0 r : List T) (gs : List (List Int)) (hr : IsG r gs) (m80 m81 : Int) (m8z : Bool) (m82 : List T) (m83z : Bool) (m83 : List T) : ∀ (m i : Nat) (pz : Bool) (pos : List Int) (cz : Bool) (crd : List Int), m + i = gs.length → gs.length ≤ 100000 → pos.length ≤ 100001 + i → crd.length + total (gs.drop i) ≤ 2000000 → (crd ≠ [] → cz = true) →
    (k = 3 ∧ (∃ g ∈ gs.drop i, g.length ≠ 1) ∧ L10v1_10 k gz r0 tz r (r.length : Int) (i : Int) m80 m81 m8z m82 m83z m83 k s pz (ints pos) cz (ints crd) = errR 1) ∨
    ((k = 3 → ∀ g ∈ gs.drop i, g.length = 1) ∧ ∃ pz' cz', (crd ++ (gs.drop i).flatten ≠ [] → cz' = true) ∧ L10v1_10 k gz r0 tz r (r.length : Int) (i : Int) m80 m81 m8z m82 m83z m83 k s pz (ints pos) cz (ints crd) =
      (callK (vr 19 0 [(.t (lvT k s pz' (pos ++ (if pz = true then sums crd.length (gs.drop i) else [])) cz' (crd ++ (gs.drop i).flatten))), (.t (.int .i64 (r0.length : Int)))] ⟨[], []⟩) fun v_4 b_5 =>
      asT v_4 fun x_6 => asI .i64 x_6 fun x_7 => endB b_5 <|
      (bif (!decide (x_7 = 0)) then errR x_7 else okR k s pz' (pos ++ (if pz = true then sums crd.length (gs.drop i) else [])) cz' (crd ++ (gs.drop i).flatten))))
  | 0, i, pz, pos, cz, crd, h, hg, hp, hc, hcz => by
    have hl := hr.length
    have d : decide ((i : Int) < (r.length : Int)) = false := decide_eq_false (by omega)
    have hd : gs.drop i = [] := List.drop_of_length_le (by omega)
    right
    rw [hd]
    refine ⟨fun _ g hg => by simp at hg, pz, cz, (fun h => hcz (by simpa using h)), ?_⟩
    rw [L10v1_10_eq, RL10v1_10, d, cf]
    have e1 : pos ++ (if pz = true then sums crd.length [] else []) = pos := by cases pz <;> simp [sums]
    have e2 : crd ++ ([] : List (List Int)).flatten = crd := by simp
    rw [e1, e2]
  | m + 1, i, pz, pos, cz, crd, h, hg, hp, hc, hcz => by
    have hl := hr.length
    have d : decide ((i : Int) < (r.length : Int)) = true := decide_eq_true (by omega)
    obtain ⟨g, hgi, z, hz⟩ := hr.get (List.getElem?_eq_getElem (by omega : i < r.length))
    have hri : r[i]? = some (.list 1 z (ints g)) := by rw [List.getElem?_eq_getElem (by omega), hz]
    have hd : gs.drop i = g :: gs.drop (i + 1) := by
      obtain ⟨h1, h2⟩ := List.getElem?_eq_some_iff.1 hgi
      rw [List.drop_eq_getElem_cons h1, h2]
    rw [hd] at hc ⊢
    unfold total at hc
    have hcat : ints crd ++ ints g = ints (crd ++ g) := by simp
    have n1 : (decide (((ints crd).length + (ints g).length) * (8 + 1) ≤ 70368744177664) && decide (8 ≤ 1048576)) = true := by rw [decide_eq_true (by rw [ints_len, ints_len]; omega)]; rfl
    have n2 : (decide (((ints pos).length + 1) * (8 + 1) ≤ 70368744177664) && decide (8 ≤ 1048576)) = true := by rw [decide_eq_true (by rw [ints_len]; omega)]; rfl
    -- one group more
    have go : ∀ X : Option Res, (needC (decide (((ints crd).length + (ints g).length) * (8 + 1) ≤ 70368744177664) && decide (8 ≤ 1048576)) fun _ =>
        (bif (!(!pz)) then
          needC (decide (((ints pos).length + 1) * (8 + 1) ≤ 70368744177664) && decide (8 ≤ 1048576)) fun _ =>
          L10v1_10 k gz r0 tz r (r.length : Int) (IntKind.i64.wrap ((i : Int) + 1)) m80 m81 m8z m82 m83z m83 k s (pz || true) (ints pos ++ ([(.int .i64 (((ints crd ++ ints g)).length : Int))] : List T)) (cz || (!(ints g).isEmpty)) (ints crd ++ ints g)
        else
          L10v1_10 k gz r0 tz r (r.length : Int) (IntKind.i64.wrap ((i : Int) + 1)) m80 m81 m8z m82 m83z m83 k s pz (ints pos) (cz || (!(ints g).isEmpty)) (ints crd ++ ints g))) = X →
        (k = 3 ∧ (∃ g' ∈ gs.drop (i + 1), g'.length ≠ 1) ∧ X = errR 1) ∨
        ((k = 3 → ∀ g' ∈ gs.drop (i + 1), g'.length = 1) ∧ ∃ pz' cz', (crd ++ (g :: gs.drop (i + 1)).flatten ≠ [] → cz' = true) ∧ X =
          (callK (vr 19 0 [(.t (lvT k s pz' (pos ++ (if pz = true then sums crd.length (g :: gs.drop (i + 1)) else [])) cz' (crd ++ (g :: gs.drop (i + 1)).flatten))), (.t (.int .i64 (r0.length : Int)))] ⟨[], []⟩) fun v_4 b_5 =>
          asT v_4 fun x_6 => asI .i64 x_6 fun x_7 => endB b_5 <|
          (bif (!decide (x_7 = 0)) then errR x_7 else okR k s pz' (pos ++ (if pz = true then sums crd.length (g :: gs.drop (i + 1)) else [])) cz' (crd ++ (g :: gs.drop (i + 1)).flatten)))) := by
      intro X hX
      have hor := czOr g hcz
      rw [needC_true n1, natWrap (by omega), hcat] at hX
      have e2 : crd ++ (g :: gs.drop (i + 1)).flatten = crd ++ g ++ (gs.drop (i + 1)).flatten := by rw [List.flatten_cons, List.append_assoc]
      cases pz with
      | true =>
        have e3 : ints pos ++ ([(.int .i64 ((ints (crd ++ g)).length : Int))] : List T) = ints (pos ++ [((crd.length + g.length : Nat) : Int)]) := by
          rw [ints_len, List.length_append]; simp
        have e1 : pos ++ (if true = true then sums crd.length (g :: gs.drop (i + 1)) else []) = pos ++ [((crd.length + g.length : Nat) : Int)] ++ (if true = true then sums (crd ++ g).length (gs.drop (i + 1)) else []) := by
          simp only [if_true, sums, List.length_append, List.append_assoc, List.singleton_append]
        rw [bNT, bNF, ct, needC_true n2, e3, bTO] at hX
        rw [e1, e2, ← hX]
        exact L10v_spec k s gz tz r0 r gs hr m80 m81 m8z m82 m83z m83 m (i + 1) true _ _ (crd ++ g) (by omega) hg (by rw [List.length_append]; simp; omega) (by rw [List.length_append]; omega) hor
      | false =>
        rw [bNF, bNT, cf] at hX
        rw [e2, ← hX]
        exact L10v_spec k s gz tz r0 r gs hr m80 m81 m8z m82 m83z m83 m (i + 1) false pos _ (crd ++ g) (by omega) hg (by omega) (by rw [List.length_append]; omega) hor
    rw [L10v1_10_eq, RL10v1_10, d, ct, needNat, Int.toNat_natCast, getT_at hri, asL_list]
    by_cases h3 : k = 3
    · rw [decide_eq_true h3, ct, ints_len g]
      by_cases h1 : (g.length : Int) = 1
      · rw [decide_eq_true h1, bNT, cf]
        rcases go _ rfl with ⟨a1, ⟨g', a2, a3⟩, a4⟩ | ⟨a1, pz', cz', a0, a2⟩
        · exact .inl ⟨a1, ⟨g', List.mem_cons_of_mem _ a2, a3⟩, by rw [← ints_len g]; exact a4⟩
        · refine .inr ⟨fun hk g' hg' => ?_, pz', cz', a0, by rw [← ints_len g]; exact a2⟩
          rcases List.mem_cons.1 hg' with rfl | hg'
          · omega
          · exact a1 hk g' hg'
      · rw [decide_eq_false h1, bNF, ct]
        exact .inl ⟨h3, ⟨g, by simp, by omega⟩, rfl⟩
    · rw [decide_eq_false h3, cf]
      rcases go _ rfl with ⟨a1, _⟩ | ⟨a1, pz', cz', a0, a2⟩
      · exact absurd a1 h3
      · exact .inr ⟨fun hk => absurd hk h3, pz', cz', a0, a2⟩
theorem make10v (k s : Int) (gz : Bool) (r : List T) (gs : List (List Int)) (hr : IsG r gs) (hn : gs.length ≤ 100000) (ht : total gs ≤ 2000000) :
    (∃ e : Int, e ≠ 0 ∧ vr 10 1 [.t (.int .i64 k), .t (.int .i64 s), .t (.list 1 gz r)] e0 = errR e ∧ e = makeE k s gs) ∨
    (∃ pz cz, vr 10 1 [.t (.int .i64 k), .t (.int .i64 s), .t (.list 1 gz r)] e0 = okR k s pz (mkPos k gs) cz (mkCrd k gs) ∧ makeE k s gs = 0 ∧ (mkCrd k gs ≠ [] → cz = true)) := by
  have hl := hr.length
  have fin : ∀ (pz : Bool) (pos : List Int) (gz2 : Bool) (r2 : List T) (gs2 : List (List Int)), IsG r2 gs2 → gs2.length = gs.length → total gs2 ≤ 2000000 → pos.length ≤ 1 → (k = 3 → gs2 = gs) → pos ++ (if pz = true then sums 0 gs2 else []) = mkPos k gs → gs2.flatten = mkCrd k gs →
      ∀ X : Option Res, J10v1_9 k gz2 r2 0 0 false [] false [] k s pz (ints pos) false (ints []) = X →
      (∃ e : Int, e ≠ 0 ∧ X = errR e ∧ e = makeE k s gs) ∨ (∃ pz cz, X = okR k s pz (mkPos k gs) cz (mkCrd k gs) ∧ makeE k s gs = 0 ∧ (mkCrd k gs ≠ [] → cz = true)) := by
    intro pz pos gz2 r2 gs2 hr2 hl2 ht2 hpos h3 hp hc X hX
    have hlen := hr2.length
    rw [J10v1_9_eq, RJ10v1_9] at hX
    have e : (0 : Int) = ((0 : Nat) : Int) := rfl
    have hlp : (mkPos k gs).length ≤ 200000 := by
      rw [← hp, List.length_append]
      cases pz with
      | true => simp only [if_true, sums_len]; omega
      | false => simp; omega
    have hlc : (mkCrd k gs).length ≤ 2000000 := by rw [← hc, total_flatten]; exact ht2
    rcases L10v_spec k s gz2 gz2 r2 r2 gs2 hr2 0 0 false [] false [] gs2.length 0 pz pos false [] (by omega) (by omega) (by omega) (by simpa using ht2) (fun h => absurd rfl h) with ⟨a1, ⟨g, a2, a3⟩, a4⟩ | ⟨a1, pz', cz', a0, a2⟩
    · rw [← e] at a4
      left
      refine ⟨1, by omega, by rw [← hX]; exact a4, ?_⟩
      rw [makeE1 ⟨a1, g, by rw [← h3 a1]; simpa using a2, a3⟩]
    · rw [← e, List.drop_zero, List.length_nil, hp, List.nil_append, hc] at a2
      rw [List.drop_zero, List.nil_append, hc] at a0
      have hm : makeE k s gs = checkE k s (mkPos k gs) (mkCrd k gs) (gs.length : Int) := makeE2 fun ⟨hk, g, hg, hgl⟩ => hgl (a1 hk g (by rw [h3 hk]; simpa using hg))
      obtain ⟨q, b1, b2⟩ := make_finv k s pz' cz' (mkPos k gs) (mkCrd k gs) (r2.length : Int) (by omega) (by omega)
      rw [b1] at a2
      have hXq : X = q := by rw [← hX]; exact a2
      have hlr : (r2.length : Int) = (gs.length : Int) := by omega
      rw [hlr] at b2
      rw [hXq]
      rcases b2 with ⟨e1, c1, c2, c3⟩ | ⟨c1, c2⟩
      · exact .inl ⟨e1, c1, c2, by rw [hm]; exact c3⟩
      · exact .inr ⟨pz', cz', c1, by rw [hm]; exact c2, a0⟩
  rw [eq10v1, R10v1]
  have wz : whole k = true → mkCrd k gs = [] := fun h => by unfold mkCrd; rw [if_pos h]
  have pz0 : ¬ (k = 1 ∨ k = 2) → mkPos k gs = [] := fun h => by unfold mkPos; rw [if_neg h]
  by_cases h1 : k = 1
  · rw [decide_eq_true h1, ct]
    refine fin true [0] gz r gs hr rfl ht (by simp) (fun _ => rfl) ?_ ?_ _ rfl
    · show [0] ++ sums 0 gs = mkPos k gs
      unfold mkPos; rw [if_pos (Or.inl h1 : k = 1 ∨ k = 2)]; rfl
    · unfold mkCrd; subst h1; rfl
  rw [decide_eq_false h1, cf]
  by_cases h2 : k = 2
  · rw [decide_eq_true h2, ct]
    refine fin true [0] gz r gs hr rfl ht (by simp) (fun _ => rfl) ?_ ?_ _ rfl
    · show [0] ++ sums 0 gs = mkPos k gs
      unfold mkPos; rw [if_pos (Or.inr h2 : k = 1 ∨ k = 2)]; rfl
    · unfold mkCrd; subst h2; rfl
  rw [decide_eq_false h2, cf]
  have n1 : (decide (0 ≤ (r.length : Int)) && decide ((r.length : Int) ≤ (r.length : Int)) && decide ((r.length : Int) * (24 + 1) ≤ 70368744177664)) = true := by
    rw [decide_eq_true (by omega : 0 ≤ (r.length : Int)), decide_eq_true (Int.le_refl _), decide_eq_true (by omega : (r.length : Int) * (24 + 1) ≤ 70368744177664)]; rfl
  have whl : whole k = true → (J10v1_9 k true (List.replicate ((r.length : Int)).toNat (.list 1 false [])) 0 0 false [] false [] k s false [] false [] : Option Res) = J10v1_9 k true (List.replicate gs.length (.list 1 false [])) 0 0 false [] false [] k s false (ints []) false (ints []) := fun _ => by
    rw [Int.toNat_natCast, hl]; rfl
  by_cases h0 : k = 0
  · rw [decide_eq_true h0, ct, needC_true n1, whl (by subst h0; rfl)]
    refine fin false [] true _ (List.replicate gs.length []) (isG_nil _) (by simp) (by rw [total_nil]; omega) (by simp) (fun h => by omega) ?_ ?_ _ rfl
    · rw [pz0 (by omega)]; rfl
    · rw [wz (by subst h0; rfl), flatten_nil]
  rw [decide_eq_false h0, cf]
  by_cases h4 : k = 4
  · rw [decide_eq_true h4, ct, needC_true n1, whl (by subst h4; rfl)]
    refine fin false [] true _ (List.replicate gs.length []) (isG_nil _) (by simp) (by rw [total_nil]; omega) (by simp) (fun h => by omega) ?_ ?_ _ rfl
    · rw [pz0 (by omega)]; rfl
    · rw [wz (by subst h4; rfl), flatten_nil]
  rw [decide_eq_false h4, cf]
  refine fin false [] gz r gs hr rfl ht (by simp) (fun _ => rfl) ?_ ?_ _ rfl
  · rw [pz0 (by omega)]; rfl
  · unfold mkCrd whole
    rw [decide_eq_false h0, decide_eq_false h4, bFO, if_neg (by simp)]
end Go.Proofs.Ytejfkiohnoiagaa.VM
end

section
namespace Go.Proofs.Ytejfkiohnoiagaa.VM
set_option linter.unusedSectionVars false
open Go AM
theorem other_bad {k s : Int} {pos crd : List Int} {n : Int} (h : ¬ (k = 0 ∨ k = 1 ∨ k = 2 ∨ k = 3 ∨ k = 4)) : checkE k s pos crd n = 1 := by
  by_cases g : n < 0 ∨ 1048576 < n ∨ s < 0 ∨ 2147483648 < s
  · exact checkE1 g
  · refine checkE2 g fun hf => ?_
    rcases hf with ⟨h', _⟩ | ⟨h', _⟩ | ⟨h', _⟩ <;> omega
/-- A result of the reference. -/
abbrev refR (k s : Int) (pz : Bool) (pos : List Int) (cz : Bool) (crd : List Int) (e : Int) : Option Res := some (.tup [.t (lvT k s pz pos cz crd), .t (.int .i64 e)], e0)
section
variable {k s : Int}
theorem J1120_spec (gz : Bool) (r : List T) (a1 a2 : Int) (a3 : Bool) (a4 : List T) (a5 : Bool) (a6 : List T) (pz cz : Bool) (pos crd : List Int) (hp : pos.length ≤ 4611686018427387903) (hc : crd.length ≤ 4611686018427387903) :
    (checkE k s pos crd (r.length : Int) ≠ 0 ∧ J11_20 gz r a1 a2 a3 a4 a5 a6 k s pz (ints pos) cz (ints crd) = refR 0 0 false [] false [] (checkE k s pos crd (r.length : Int))) ∨
    (checkE k s pos crd (r.length : Int) = 0 ∧ J11_20 gz r a1 a2 a3 a4 a5 a6 k s pz (ints pos) cz (ints crd) = refR k s pz pos cz crd 0) := by
  rw [J11_20_eq, RJ11_20, check28 _ hp hc, callK_some, asT_t, asI_int, endB_nil]
  by_cases he : checkE k s pos crd (r.length : Int) = 0
  · rw [decide_eq_true he, bNT, cf]
    exact .inr ⟨he, rfl⟩
  · rw [decide_eq_false he, bNF, ct]
    exact .inl ⟨he, rfl⟩
theorem L115_spec (gz tz : Bool) (r0 r : List T) (gs : List (List Int)) (hr : IsG r gs) (hn : gs.length ≤ 100000) (a1 a2 : Int) (a3 : Bool) (a4 : List T) (a5 : Bool) (a6 : List T) (pz : Bool) (P : List T) : ∀ (m i : Nat) (cz : Bool) (crd : List Int), m + i = gs.length → crd.length ≤ i →
    ((∃ g ∈ gs.drop i, g.length ≠ 1) ∧ L11_5 gz r0 tz r (r.length : Int) (i : Int) a1 a2 a3 a4 a5 a6 k s pz P cz (ints crd) = refR 0 0 false [] false [] 1) ∨
    ((∀ g ∈ gs.drop i, g.length = 1) ∧ ∃ cz', L11_5 gz r0 tz r (r.length : Int) (i : Int) a1 a2 a3 a4 a5 a6 k s pz P cz (ints crd) = J11_20 gz r0 a1 a2 a3 a4 a5 a6 k s pz P cz' (ints (crd ++ (gs.drop i).flatten)))
  | 0, i, cz, crd, h, hc => by
    have hl := hr.length
    have d : decide ((i : Int) < (r.length : Int)) = false := decide_eq_false (by omega)
    have hd : gs.drop i = [] := List.drop_of_length_le (by omega)
    rw [hd, L11_5_eq, RL11_5, d, cf]
    refine .inr ⟨fun g hg => by simp at hg, cz, ?_⟩
    have e2 : crd ++ ([] : List (List Int)).flatten = crd := by simp
    rw [e2]
  | m + 1, i, cz, crd, h, hc => by
    have hl := hr.length
    have d : decide ((i : Int) < (r.length : Int)) = true := decide_eq_true (by omega)
    obtain ⟨g, z, hg1, hg2⟩ := hr.at (by omega : i < gs.length)
    have hd : gs.drop i = g :: gs.drop (i + 1) := by
      obtain ⟨h1, h2⟩ := List.getElem?_eq_some_iff.1 hg1
      rw [List.drop_eq_getElem_cons h1, h2]
    rw [hd, L11_5_eq, RL11_5, d, ct, needNat, Int.toNat_natCast, getT_at hg2, asL_list, ints_len]
    by_cases h1 : (g.length : Int) = 1
    · obtain ⟨x, rfl⟩ : ∃ x, g = [x] := by
        match g, h1 with
        | [x], _ => exact ⟨x, rfl⟩
        | [], h1 => simp at h1
        | _ :: _ :: _, h1 => simp at h1; omega
      have n1 : (decide (((ints crd).length + 1) * (8 + 1) ≤ 70368744177664) && decide (8 ≤ 1048576)) = true := by rw [decide_eq_true (by rw [ints_len]; omega)]; rfl
      have e00 : ((0 : Int)).toNat = 0 := rfl
      have e1 : ints crd ++ ([(.int .i64 (nth [x] 0))] : List T) = ints (crd ++ [x]) := by simp [nth]
      rw [decide_eq_true h1, bNT, cf, need00, e00, getI (by simp), needC_true n1, natWrap (by omega), e1]
      rcases L115_spec gz tz r0 r gs hr hn a1 a2 a3 a4 a5 a6 pz P m (i + 1) (cz || true) (crd ++ [x]) (by omega) (by simp; omega) with ⟨⟨g', b1, b2⟩, b3⟩ | ⟨b1, cz', b2⟩
      · exact .inl ⟨⟨g', List.mem_cons_of_mem _ b1, b2⟩, b3⟩
      · refine .inr ⟨fun g' hg' => ?_, cz', ?_⟩
        · rcases List.mem_cons.1 hg' with rfl | hg'
          · rfl
          · exact b1 g' hg'
        · have e2 : crd ++ ([x] :: gs.drop (i + 1)).flatten = crd ++ [x] ++ (gs.drop (i + 1)).flatten := by rw [List.flatten_cons, List.append_assoc]
          rw [e2]; exact b2
    · rw [decide_eq_false h1, bNF, ct]
      exact .inl ⟨⟨g, by simp, by omega⟩, rfl⟩
theorem L1115_spec (gz tz : Bool) (r0 r : List T) (gs : List (List Int)) (hr : IsG r gs) (hn : gs.length ≤ 100000) (a1 a2 : Int) (a3 : Bool) (a4 : List T) (a5 : Bool) (a6 : List T) : ∀ (m i : Nat) (pz : Bool) (pos : List Int) (cz : Bool) (crd : List Int), m + i = gs.length → pos.length ≤ 100001 + i → crd.length + total (gs.drop i) ≤ 2000000 →
    ∃ pz' cz', L11_15 gz r0 tz r (r.length : Int) (i : Int) a1 a2 a3 a4 a5 a6 k s pz (ints pos) cz (ints crd) = J11_20 gz r0 a1 a2 a3 a4 a5 a6 k s pz' (ints (pos ++ sums crd.length (gs.drop i))) cz' (ints (crd ++ (gs.drop i).flatten))
  | 0, i, pz, pos, cz, crd, h, hp, hc => by
    have hl := hr.length
    have d : decide ((i : Int) < (r.length : Int)) = false := decide_eq_false (by omega)
    have hd : gs.drop i = [] := List.drop_of_length_le (by omega)
    rw [hd, L11_15_eq, RL11_15, d, cf]
    refine ⟨pz, cz, ?_⟩
    have e1 : pos ++ sums crd.length [] = pos := by simp [sums]
    have e2 : crd ++ ([] : List (List Int)).flatten = crd := by simp
    rw [e1, e2]
  | m + 1, i, pz, pos, cz, crd, h, hp, hc => by
    have hl := hr.length
    have d : decide ((i : Int) < (r.length : Int)) = true := decide_eq_true (by omega)
    obtain ⟨g, z, hg1, hg2⟩ := hr.at (by omega : i < gs.length)
    have hd : gs.drop i = g :: gs.drop (i + 1) := by
      obtain ⟨h1, h2⟩ := List.getElem?_eq_some_iff.1 hg1
      rw [List.drop_eq_getElem_cons h1, h2]
    rw [hd] at hc ⊢
    unfold total at hc
    have hcat : ints crd ++ ints g = ints (crd ++ g) := by simp
    have n1 : (decide (((ints crd).length + (ints g).length) * (8 + 1) ≤ 70368744177664) && decide (8 ≤ 1048576)) = true := by rw [decide_eq_true (by rw [ints_len, ints_len]; omega)]; rfl
    have n2 : (decide (((ints pos).length + 1) * (8 + 1) ≤ 70368744177664) && decide (8 ≤ 1048576)) = true := by rw [decide_eq_true (by rw [ints_len]; omega)]; rfl
    have e3 : ints pos ++ ([(.int .i64 ((ints (crd ++ g)).length : Int))] : List T) = ints (pos ++ [((crd.length + g.length : Nat) : Int)]) := by
      rw [ints_len, List.length_append]; simp
    obtain ⟨pz', cz', ih⟩ := L1115_spec gz tz r0 r gs hr hn a1 a2 a3 a4 a5 a6 m (i + 1) (pz || true) (pos ++ [((crd.length + g.length : Nat) : Int)]) (cz || (!(ints g).isEmpty)) (crd ++ g) (by omega) (by rw [List.length_append]; simp; omega) (by rw [List.length_append]; omega)
    refine ⟨pz', cz', ?_⟩
    rw [L11_15_eq, RL11_15, d, ct, needNat, Int.toNat_natCast, getT_at hg2, asL_list, needC_true n1, needC_true n2, hcat, e3, natWrap (by omega)]
    refine Eq.trans ih ?_
    have e1 : pos ++ [((crd.length + g.length : Nat) : Int)] ++ sums (crd ++ g).length (gs.drop (i + 1)) = pos ++ sums crd.length (g :: gs.drop (i + 1)) := by
      simp only [sums, List.length_append, List.append_assoc, List.singleton_append]
    have e2 : crd ++ g ++ (gs.drop (i + 1)).flatten = crd ++ (g :: gs.drop (i + 1)).flatten := by rw [List.flatten_cons, List.append_assoc]
    rw [e1, e2]
/-- The reference makes the same. -/
theorem make11 (gz : Bool) (r : List T) (gs : List (List Int)) (hr : IsG r gs) (hn : gs.length ≤ 100000) (ht : total gs ≤ 2000000) :
    (makeE k s gs ≠ 0 ∧ vr 11 0 [.t (.int .i64 k), .t (.int .i64 s), .t (.list 1 gz r)] e0 = refR 0 0 false [] false [] (makeE k s gs)) ∨
    (makeE k s gs = 0 ∧ ∃ pz cz, vr 11 0 [.t (.int .i64 k), .t (.int .i64 s), .t (.list 1 gz r)] e0 = refR k s pz (mkPos k gs) cz (mkCrd k gs) 0) := by
  have hl := hr.length
  have hlen : (r.length : Int) = (gs.length : Int) := by omega
  have hp : (mkPos k gs).length ≤ 4611686018427387903 := by
    by_cases hk : k = 1 ∨ k = 2
    · rw [pos_len hk]; omega
    · rw [pos_none hk]; simp
  have hc : (mkCrd k gs).length ≤ 4611686018427387903 := by
    cases hw : whole k with
    | true => rw [crd_whole hw]; simp
    | false => rw [crd_flat hw, total_flatten]; omega
  -- what the check says is what is wrong
  have fin : ∀ (pz cz : Bool) (X : Option Res), ¬ (k = 3 ∧ ∃ g ∈ gs, g.length ≠ 1) → X = J11_20 gz r 0 0 false [] false [] k s pz (ints (mkPos k gs)) cz (ints (mkCrd k gs)) →
      (makeE k s gs ≠ 0 ∧ X = refR 0 0 false [] false [] (makeE k s gs)) ∨ (makeE k s gs = 0 ∧ ∃ pz cz, X = refR k s pz (mkPos k gs) cz (mkCrd k gs) 0) := by
    intro pz cz X hb hX
    rw [makeE2 hb, hX]
    rcases J1120_spec (k := k) (s := s) gz r 0 0 false [] false [] pz cz (mkPos k gs) (mkCrd k gs) hp hc with ⟨h1, h2⟩ | ⟨h1, h2⟩
    · rw [hlen] at h1 h2; exact .inl ⟨h1, h2⟩
    · rw [hlen] at h1; exact .inr ⟨h1, pz, cz, h2⟩
  have two : (k = 1 ∨ k = 2) → (makeE k s gs ≠ 0 ∧ L11_15 gz r gz r (r.length : Int) 0 0 0 false [] false [] k s true (ints [0]) false (ints []) = refR 0 0 false [] false [] (makeE k s gs)) ∨ (makeE k s gs = 0 ∧ ∃ pz cz, L11_15 gz r gz r (r.length : Int) 0 0 0 false [] false [] k s true (ints [0]) false (ints []) = refR k s pz (mkPos k gs) cz (mkCrd k gs) 0) := by
    intro hk
    obtain ⟨pz, cz, h1⟩ := L1115_spec (k := k) (s := s) gz gz r r gs hr hn 0 0 false [] false [] gs.length 0 true [0] false [] (by omega) (by simp) (by rw [List.drop_zero]; simpa using ht)
    have e1 : [(0 : Int)] ++ sums ([] : List Int).length (gs.drop 0) = mkPos k gs := by unfold mkPos; rw [if_pos hk]; rfl
    have e2 : ([] : List Int) ++ (gs.drop 0).flatten = mkCrd k gs := by rw [crd_flat (whole_false (by omega))]; rfl
    rw [e1, e2] at h1
    exact fin pz cz _ (fun h => by omega) h1
  rw [eq11, R11]
  by_cases h3 : k = 3
  · rw [decide_eq_true h3, ct]
    rcases L115_spec (k := k) (s := s) gz gz r r gs hr hn 0 0 false [] false [] false [] gs.length 0 false [] (by omega) (by simp) with ⟨⟨g, b1, b2⟩, b3⟩ | ⟨b1, cz, b2⟩
    · rw [List.drop_zero] at b1
      rw [makeE1 ⟨h3, g, b1, b2⟩]
      exact .inl ⟨by omega, b3⟩
    · rw [List.drop_zero] at b1 b2
      have e1 : mkPos k gs = [] := pos_none (by omega)
      have e2 : ([] : List Int) ++ gs.flatten = mkCrd k gs := by rw [crd_flat (whole_false (by omega))]; rfl
      rw [e2] at b2
      refine fin false cz _ (fun ⟨_, g, hg, hgl⟩ => hgl (b1 g hg)) ?_
      rw [e1]; exact b2
  rw [decide_eq_false h3, cf]
  by_cases h1 : k = 1
  · rw [decide_eq_true h1, ct]; exact two (.inl h1)
  rw [decide_eq_false h1, cf]
  by_cases h2 : k = 2
  · rw [decide_eq_true h2, ct]; exact two (.inr h2)
  rw [decide_eq_false h2, cf]
  have e1 : mkPos k gs = [] := pos_none (by omega)
  cases hw : whole k with
  | true =>
    refine fin false false _ (fun h => h3 h.1) ?_
    rw [e1, crd_whole hw]; rfl
  | false =>
    have hk : k ≠ 0 ∧ k ≠ 4 := by
      unfold whole at hw
      simpa using hw
    have hbad : ∀ pos crd : List Int, ∀ n : Int, checkE k s pos crd n = 1 := fun pos crd n => other_bad (by omega)
    have hm : makeE k s gs = 1 := by rw [makeE2 (fun h => h3 h.1), hbad]
    rcases J1120_spec (k := k) (s := s) gz r 0 0 false [] false [] false false [] [] (by simp) (by simp) with ⟨b1, b2⟩ | ⟨b1, b2⟩
    · rw [hbad] at b2
      rw [hm]
      exact .inl ⟨by omega, b2⟩
    · rw [hbad] at b1; omega
end
theorem same12 {k s : Int} {pz cz pz2 cz2 : Bool} {pos crd : List Int} (hp : pos.length ≤ 9223372036854775806) (hc : crd.length ≤ 9223372036854775806) : vr 12 0 [.t (lvT k s pz pos cz crd), .t (lvT k s pz2 pos cz2 crd)] e0 = some (.t (.bool true), e0) := by
  rw [eq12, R12, decide_eq_true rfl, decide_eq_true rfl, ct, ct, equal16 _ _ _ _ hp, decide_eq_true rfl, callK_some]
  simp only [callK_some, asT_t, asI_int, asB_bool, asS_str, asL_list, asA_agg, consT_cons, endT_nil, asG_agg, asTup_tup, consV_cons, endV_nil, endB_nil, consB_cons, asArr_arr, asAv_av, asMp_map, asVar_var, isBuf_buf, isPtr_ptr, needC_t, ct, cf, bNT, bNF, bTA, bAT, bFA, bAF, bTO, bOT, bFO, bOF, dT, dF]
  rw [equal16 _ _ _ _ hc, decide_eq_true rfl, callK_some]
  simp only [callK_some, asT_t, asI_int, asB_bool, asS_str, asL_list, asA_agg, consT_cons, endT_nil, asG_agg, asTup_tup, consV_cons, endV_nil, endB_nil, consB_cons, asArr_arr, asAv_av, asMp_map, asVar_var, isBuf_buf, isPtr_ptr, needC_t, ct, cf, bNT, bNF, bTA, bAT, bFA, bAF, bTO, bOT, bFO, bOF, dT, dF]
section
variable {k s : Int} {gs : List (List Int)} {gz : Bool} {G : List T}
/-- What was made is written to; made again it is the same. -/
theorem L315_spec (k2 s2 : Int) (pz cz : Bool) (pos crd : List Int) (e : Int) (hp : pos.length ≤ 9223372036854775806) (hc : crd.length ≤ 9000000) (pz3 cz3 : Bool)
    (href : vr 11 0 [.t (.int .i64 k), .t (.int .i64 s), .t (.list 1 gz G)] e0 = refR k2 s2 pz3 pos cz3 crd e) (pz2 cz2 : Bool) (m80 m81 : Int) (m8z : Bool) (m82 : List T) (z : Bool) :
    ∀ (m i : Nat) (l : List Int), m + i = l.length → l.length ≤ 9000000 → (l.length ≠ 0 → z = true) →
    L3_15 k s gz G true e (l.length : Int) (i : Int) m80 m81 m8z m82 z (ints l) k2 s2 pz2 (ints pos) cz2 (ints crd) = some (.t (.bool true), e0)
  | 0, i, l, h, hl, hz => by
    have d : decide ((i : Int) < (l.length : Int)) = false := decide_eq_false (by omega)
    rw [L3_15_eq, RL3_15, d, cf, href, callK_some]
    simp only [callK_some, asT_t, asI_int, asB_bool, asS_str, asL_list, asA_agg, consT_cons, endT_nil, asG_agg, asTup_tup, consV_cons, endV_nil, endB_nil, consB_cons, asArr_arr, asAv_av, asMp_map, asVar_var, isBuf_buf, isPtr_ptr, needC_t, ct, cf, bNT, bNF, bTA, bAT, bFA, bAF, bTO, bOT, bFO, bOF, dT, dF]
    rw [same12 hp (by omega), callK_some]
    simp only [callK_some, asT_t, asI_int, asB_bool, asS_str, asL_list, asA_agg, consT_cons, endT_nil, asG_agg, asTup_tup, consV_cons, endV_nil, endB_nil, consB_cons, asArr_arr, asAv_av, asMp_map, asVar_var, isBuf_buf, isPtr_ptr, needC_t, ct, cf, bNT, bNF, bTA, bAT, bFA, bAF, bTO, bOT, bFO, bOF, dT, dF, decide_true]
  | m + 1, i, l, h, hl, hz => by
    have d : decide ((i : Int) < (l.length : Int)) = true := decide_eq_true (by omega)
    have hz' : z = true := hz (by omega)
    have n1 : (decide (0 ≤ (i : Int)) && decide ((i : Int) < ((ints l).length : Int))) = true := by
      rw [decide_eq_true (by omega : 0 ≤ (i : Int)), decide_eq_true (by rw [ints_len]; omega : (i : Int) < ((ints l).length : Int))]; rfl
    have n2 : (z && true) = true := by rw [hz']; rfl
    have hs : ∀ x : Int, (ints l).set i (.int .i64 x) = ints (l.set i x) := fun x => by rw [← List.map_set]
    have hlen : ∀ x : Int, (l.set i x).length = l.length := fun x => List.length_set
    have ih := L315_spec k2 s2 pz cz pos crd e hp hc pz3 cz3 href pz2 cz2 m80 m81 m8z m82 z m (i + 1) (l.set i (IntKind.i64.wrap (nth l i + 100))) (by rw [hlen]; omega) (by rw [hlen]; omega) (fun _ => hz')
    rw [hlen] at ih
    rw [L3_15_eq, RL3_15, d, ct, needC_true n1, Int.toNat_natCast, getI (by omega), needC_true n1, needC_true n2, setT_at _ (by rw [ints_len]; omega), hs, natWrap (by omega)]
    exact ih
theorem L34_few (hG : IsG G gs) (hb : total gs ≤ 1048576) (hl : gs.length ≤ 1048576) : ∀ (m i : Nat), m + i = gs.length → L3_4 k s gz G true ((total (gs.take i) : Nat) : Int) gz G (G.length : Int) (i : Int) = L3_4 k s gz G true ((total gs : Nat) : Int) gz G (G.length : Int) (G.length : Int)
  | 0, i, h => by
    have hlen := hG.length
    have e : i = gs.length := by omega
    rw [e, total_all, hlen]
  | m + 1, i, h => by
    have hlen := hG.length
    have d : decide ((i : Int) < (G.length : Int)) = true := decide_eq_true (by omega)
    obtain ⟨g, z, hg1, hg2⟩ := hG.at (by omega : i < gs.length)
    have h1 := total_take gs i g hg1
    have h2 := total_le gs (i + 1)
    have e : ((total (gs.take i) : Nat) : Int) + (g.length : Int) = ((total (gs.take (i + 1)) : Nat) : Int) := by omega
    have step : L3_4 k s gz G true ((total (gs.take i) : Nat) : Int) gz G (G.length : Int) (i : Int) = L3_4 k s gz G true ((total (gs.take (i + 1)) : Nat) : Int) gz G (G.length : Int) ((i + 1 : Nat) : Int) := by
      conv => lhs; rw [L3_4_eq, RL3_4, d, ct, needNat, Int.toNat_natCast, getT_at hg2, asL_list, ints_len, natWrap (by omega), wrap64 (by omega) (by omega), e]
    rw [step]
    exact L34_few hG hb hl m (i + 1) (by omega)
theorem makes_core (hG : IsG G gs) (hb : total gs ≤ 1048576) (hl : gs.length ≤ 1048576) : vr 3 0 [.t (.int .i64 k), .t (.int .i64 s), .t (.list 1 gz G)] e0 = some (.t (.bool true), e0) := by
  have hlen := hG.length
  rw [eq3, R3, live9, callK_some, asT_t, asB_bool, endB_nil]
  have h0 := L34_few (k := k) (s := s) (gz := gz) hG hb hl gs.length 0 (by omega)
  refine Eq.trans h0 ?_
  have d : decide ((G.length : Int) < (G.length : Int)) = false := decide_eq_false (by omega)
  rw [L3_4_eq, RL3_4, d, cf]
  by_cases h1 : (70000 : Int) < ((total gs : Nat) : Int)
  · rw [decide_eq_true h1, ct]
  rw [decide_eq_false h1, cf]
  by_cases h2 : (5000 : Int) < (G.length : Int)
  · rw [decide_eq_true h2, ct]
  rw [decide_eq_false h2, cf]
  have hpos : (mkPos k gs).length ≤ 9000000 := by
    by_cases hk : k = 1 ∨ k = 2
    · rw [pos_len hk]; omega
    · rw [pos_none hk]; simp
  have hcrd : (mkCrd k gs).length ≤ 9000000 := by
    cases hw : whole k with
    | true => rw [crd_whole hw]; simp
    | false => rw [crd_flat hw, total_flatten]; omega
  have ref := make11 (k := k) (s := s) gz G gs hG (by omega) (by omega)
  rcases make10v k s gz G gs hG (by omega) (by omega) with ⟨e, he, r1, r2⟩ | ⟨pz, cz, r1, r2, r3⟩
  · rcases ref with ⟨q1, q2⟩ | ⟨q1, _⟩
    · rw [← r2] at q2
      have fin := L315_spec (k := k) (s := s) (gz := gz) (G := G) 0 0 false false [] [] e (by simp) (by simp) false false q2 false false 0 0 false [] false 0 0 [] (by simp) (by simp) (fun h => absurd rfl h)
      have sm := same12 (k := 0) (s := 0) (pz := false) (cz := false) (pz2 := false) (cz2 := false) (pos := []) (crd := []) (by simp) (by simp)
      rw [r1, callK_some]
      simp only [callK_some, asT_t, asI_int, asB_bool, asS_str, asL_list, asA_agg, consT_cons, endT_nil, asG_agg, asTup_tup, consV_cons, endV_nil, endB_nil, consB_cons, asArr_arr, asAv_av, asMp_map, asVar_var, isBuf_buf, isPtr_ptr, needC_t, ct, cf, bNT, bNF, bTA, bAT, bFA, bAF, bTO, bOT, bFO, bOF, dT, dF]
      rw [q2, callK_some]
      simp only [callK_some, asT_t, asI_int, asB_bool, asS_str, asL_list, asA_agg, consT_cons, endT_nil, asG_agg, asTup_tup, consV_cons, endV_nil, endB_nil, consB_cons, asArr_arr, asAv_av, asMp_map, asVar_var, isBuf_buf, isPtr_ptr, needC_t, ct, cf, bNT, bNF, bTA, bAT, bFA, bAF, bTO, bOT, bFO, bOF, dT, dF]
      refine Eq.trans (congrArg (fun q => callK q _) sm) ?_
      rw [callK_some]
      simp only [callK_some, asT_t, asI_int, asB_bool, asS_str, asL_list, asA_agg, consT_cons, endT_nil, asG_agg, asTup_tup, consV_cons, endV_nil, endB_nil, consB_cons, asArr_arr, asAv_av, asMp_map, asVar_var, isBuf_buf, isPtr_ptr, needC_t, ct, cf, bNT, bNF, bTA, bAT, bFA, bAF, bTO, bOT, bFO, bOF, dT, dF, decide_true]
      exact fin
    · omega
  · rcases ref with ⟨q1, _⟩ | ⟨_, pz2, cz2, q2⟩
    · omega
    · have fin := L315_spec (k := k) (s := s) (gz := gz) (G := G) k s pz2 cz2 (mkPos k gs) (mkCrd k gs) 0 (by omega) hcrd pz2 cz2 q2 pz2 cz2 k s pz (ints (mkPos k gs)) cz (mkCrd k gs).length 0 (mkCrd k gs) (by omega) hcrd (fun h => r3 (fun h' => by rw [h'] at h; simp at h))
      rw [r1, callK_some]
      simp only [callK_some, asT_t, asI_int, asB_bool, asS_str, asL_list, asA_agg, consT_cons, endT_nil, asG_agg, asTup_tup, consV_cons, endV_nil, endB_nil, consB_cons, asArr_arr, asAv_av, asMp_map, asVar_var, isBuf_buf, isPtr_ptr, needC_t, ct, cf, bNT, bNF, bTA, bAT, bFA, bAF, bTO, bOT, bFO, bOF, dT, dF]
      rw [q2, callK_some]
      simp only [callK_some, asT_t, asI_int, asB_bool, asS_str, asL_list, asA_agg, consT_cons, endT_nil, asG_agg, asTup_tup, consV_cons, endV_nil, endB_nil, consB_cons, asArr_arr, asAv_av, asMp_map, asVar_var, isBuf_buf, isPtr_ptr, needC_t, ct, cf, bNT, bNF, bTA, bAT, bFA, bAF, bTO, bOT, bFO, bOF, dT, dF]
      rw [same12 (by omega) (by omega), callK_some]
      simp only [callK_some, asT_t, asI_int, asB_bool, asS_str, asL_list, asA_agg, consT_cons, endT_nil, asG_agg, asTup_tup, consV_cons, endV_nil, endB_nil, consB_cons, asArr_arr, asAv_av, asMp_map, asVar_var, isBuf_buf, isPtr_ptr, needC_t, ct, cf, bNT, bNF, bTA, bAT, bFA, bAF, bTO, bOT, bFO, bOF, dT, dF, decide_true, ints_len]
      exact fin
end
theorem makes_upto (k s : Int) (x2 : T) (f2 : FitT grTy false x2) (hb : wt x2 ≤ 1048576) : ∃ st, vr 3 0 [.t (.int .i64 k), .t (.int .i64 s), .t x2] ⟨[], []⟩ = some (.t (.bool true), st) := by
  obtain ⟨z, G, gs, rfl, hG, _⟩ := groups_of f2
  have h1 := wts_groups hG
  rw [wt] at hb
  exact ⟨e0, makes_core hG (by omega) (by omega)⟩
end Go.Proofs.Ytejfkiohnoiagaa.VM
end
