/- AM, the eighth part: what an evaluator's answer tells, and the simpler operations. Conditions: none. -/
import Derived.Test.YtcdeeppiljcddaaAm7
namespace Go.Proofs.Ytcdeeppiljcddaa.AM
open Go Go.RowKit
set_option linter.unusedSectionVars false
set_option linter.unusedSimpArgs false
set_option linter.unusedVariables false

section
variable {R : Type} {r : R} {P : Program}

theorem asIntC_some {k : IntKind} {v : Value} {K : Int → Option R} (h : asIntC k v K = some r) : ∃ n, v = .int k n ∧ K n = some r := by
  cases v <;> try cases h
  rename_i k' n
  unfold asIntC at h
  dsimp only at h
  by_cases e : k' = k
  · subst e; exact ⟨n, rfl, by simpa using h⟩
  · simp [e] at h
theorem asBoolC_some {v : Value} {K : Bool → Option R} (h : asBoolC v K = some r) : ∃ n, v = .bool n ∧ K n = some r := by
  cases v <;> first | (cases h; done) | exact ⟨_, rfl, h⟩
theorem asStrC_some {v : Value} {K : ByteArray → Option R} (h : asStrC v K = some r) : ∃ n, v = .string n ∧ K n = some r := by
  cases v <;> first | (cases h; done) | exact ⟨_, rfl, h⟩
theorem asSliceC_some {v : Value} {K : Option Addr → Nat → Nat → Option R} (h : asSliceC v K = some r) : ∃ a n c, v = .slice a n c ∧ K a n c = some r := by
  cases v <;> first | (cases h; done) | exact ⟨_, _, _, rfl, h⟩
theorem asPtrC_some {v : Value} {K : Option Addr → Option R} (h : asPtrC v K = some r) : ∃ a, v = .pointer a ∧ K a = some r := by
  cases v <;> first | (cases h; done) | exact ⟨_, rfl, h⟩
theorem asMapC_some {v : Value} {K : Option Nat → Option R} (h : asMapC v K = some r) : ∃ a, v = .map a ∧ K a = some r := by
  cases v <;> first | (cases h; done) | exact ⟨_, rfl, h⟩
theorem asAggC_some {v : Value} {K : List Value → Option R} (h : asAggC v K = some r) : ∃ cs, v = .agg cs ∧ K cs.toList = some r := by
  cases v <;> first | (cases h; done) | exact ⟨_, rfl, h⟩
theorem sizeC_some {t : TypeId} {K : Nat → Option R} (h : sizeC P t K = some r) : ∃ i, P.info? t = some i ∧ K i.size = some r := by
  unfold sizeC at h
  split at h
  · exact ⟨_, by assumption, h⟩
  · cases h
theorem zeroC_some {t : TypeId} {K : Value → Option R} (h : zeroC P t K = some r) : ∃ i z, P.info? t = some i ∧ i.zero = some z ∧ plainC z = true ∧ K z = some r := by
  unfold zeroC at h
  split at h
  · split at h
    · obtain ⟨hb, hk⟩ := needC_some h
      exact ⟨_, _, by assumption, by assumption, hb, hk⟩
    · cases h
  · cases h
theorem elemC_some {t : TypeId} {K : TypeId → Option R} (h : elemC P t K = some r) : ∃ e, P.underlying t = some (.slice e) ∧ K e = some r := by
  unfold elemC at h
  split at h
  · exact ⟨_, by assumption, h⟩
  · cases h
theorem like1C_some {z v : Value} {K : Value → Option R} (h : like1C z v K = some r) : K v = some r := by
  cases z <;> simp only [like1C] at h <;> first
    | exact h
    | (obtain ⟨_, rfl, hk⟩ := asIntC_some h; exact hk)
    | (obtain ⟨_, rfl, hk⟩ := asBoolC_some h; exact hk)
    | (obtain ⟨_, rfl, hk⟩ := asStrC_some h; exact hk)
    | (obtain ⟨_, _, _, rfl, hk⟩ := asSliceC_some h; exact hk)
    | (obtain ⟨_, rfl, hk⟩ := asPtrC_some h; exact hk)
    | (obtain ⟨_, rfl, hk⟩ := asMapC_some h; exact hk)
theorem likeCellsC_some : ∀ {zs vs : List Value} {K : List Value → Option R}, likeCellsC zs vs K = some r → K vs = some r ∧ zs.length = vs.length
  | [], [], K, h => ⟨h, rfl⟩
  | [], _ :: _, K, h => by cases h
  | _ :: _, [], K, h => by cases h
  | z :: zs, v :: vs, K, h => by
    simp only [likeCellsC, consC] at h
    obtain ⟨a, b⟩ := likeCellsC_some (like1C_some h)
    exact ⟨a, by simp [b]⟩
theorem like2C_some {z v : Value} {K : Value → Option R} (h : like2C z v K = some r) : K v = some r := by
  unfold like2C at h
  split at h
  · obtain ⟨cs, rfl, hk⟩ := asAggC_some h
    have := (likeCellsC_some hk).1
    simpa using this
  · exact like1C_some h
theorem likePartsC_some : ∀ {zs vs : List Value} {K : List Value → Option R}, likePartsC zs vs K = some r → K vs = some r
  | [], [], K, h => h
  | [], _ :: _, K, h => by cases h
  | _ :: _, [], K, h => by cases h
  | z :: zs, v :: vs, K, h => by
    simp only [likePartsC, consC] at h
    exact likePartsC_some (K := fun us => K (v :: us)) (like2C_some h)
theorem like3C_some {z v : Value} {K : Value → Option R} (h : like3C z v K = some r) : K v = some r := by
  unfold like3C at h
  split at h
  · split at h
    · have := likePartsC_some h
      simpa using this
    · cases h
  · exact like2C_some h
theorem ldC_some {h : Hp} {z : Value} {a : Addr} {K : Value → Option R} (hk : h.ldC z a K = some r) : ∃ v, h.cell a = some v ∧ K v = some r := by
  unfold Hp.ldC at hk
  split at hk
  · exact ⟨_, by assumption, like1C_some hk⟩
  · cases hk
theorem ldCellsC_some {h : Hp} {a : Addr} : ∀ {zs : List Value} {i : Nat} {K : List Value → Option R}, h.ldCellsC a zs i K = some r →
    ∃ vs, vs.length = zs.length ∧ (∀ (j : Nat) (v : Value), vs[j]? = some v → h.cell (a.add (i + j)) = some v) ∧ K vs = some r
  | [], i, K, hk => ⟨[], rfl, fun j v hv => by simp at hv, hk⟩
  | z :: zs, i, K, hk => by
    rw [Hp.ldCellsC] at hk
    obtain ⟨v, hv, hk⟩ := ldC_some hk
    obtain ⟨vs, hl, hvs, hk⟩ := ldCellsC_some hk
    refine ⟨v :: vs, by simp [hl], ?_, hk⟩
    intro j u hu
    cases j with
    | zero => simp at hu; subst hu; exact hv
    | succ j => have := hvs j u (by simpa using hu); rwa [show i + 1 + j = i + (j + 1) by omega] at this
theorem rawCells_some {h : Hp} {a : Addr} : ∀ {n i : Nat} {vs : List Value}, h.rawCells a i n = some vs → vs.length = n ∧ ∀ (j : Nat) (v : Value), vs[j]? = some v → h.cell (a.add (i + j)) = some v
  | 0, i, vs, hk => by cases hk; exact ⟨rfl, fun j v hv => by simp at hv⟩
  | n + 1, i, vs, hk => by
    rw [Hp.rawCells] at hk
    split at hk
    · rename_i v hv
      obtain ⟨us, hus, rfl⟩ := Option.map_eq_some_iff.1 hk
      obtain ⟨hl, hg⟩ := rawCells_some hus
      refine ⟨by simp [hl], ?_⟩
      intro j u hu
      cases j with
      | zero => simp at hu; subst hu; exact hv
      | succ j => have := hg j u (by simpa using hu); rwa [show i + 1 + j = i + (j + 1) by omega] at this
    · cases hk
theorem aggC_some {t : TypeId} {K : Bool → Option R} (h : aggC P t K = some r) : ∃ b, (∀ w, (isAgg t).run P w = .ok b w) ∧ K b = some r := by
  unfold aggC at h
  split at h
  · rename_i fs hu
    exact ⟨true, fun w => by simp [isAgg, run_underlying hu], h⟩
  · rename_i n e hu
    exact ⟨true, fun w => by simp [isAgg, run_underlying hu], h⟩
  · rename_i d h1 h2 hu
    refine ⟨false, fun w => ?_, h⟩
    simp only [isAgg, Sem.run_bind, run_underlying hu, Result.andThen_ok]
    rfl
  · cases h
end

section
variable {B : Nat} {W : World} {ρ : Places} {h h' : Hp} {w : World} {P : Program} {R : Type} {r : R}

/-- What an operation leaves: a value and a world that go with the evaluator's. -/
def Post (B : Nat) (W : World) (ρ : Places) (h' : Hp) (v : Value) (v' : Value) (w' : World) : Prop := ∃ ρ', LeP ρ ρ' ∧ Sim B W ρ' h' w' ∧ VRel B ρ' v v'
theorem Post.same (s : Sim B W ρ h w) {v v' : Value} (hr : VRel B ρ v v') : Post B W ρ h v v' w := ⟨ρ, LeP.refl ρ, s, hr⟩

theorem Sim.cells (s : Sim B W ρ h w) {a a' : Addr} (ha : ARel B ρ a a') {vs : List Value} (hv : ∀ (j : Nat) (v : Value), vs[j]? = some v → h.cell (a.add (0 + j)) = some v) :
    ∃ vs', VRels B ρ vs vs' ∧ ∀ (j : Nat) (v : Value), vs'[j]? = some v → w.cell? (a'.add j) = some v := by
  have : ∀ (n : Nat) (i : Nat) (us : List Value), us.length = n → (∀ (j : Nat) (v : Value), us[j]? = some v → h.cell (a.add (i + j)) = some v) → ∃ us', VRels B ρ us us' ∧ ∀ (j : Nat) (v : Value), us'[j]? = some v → w.cell? (a'.add (i + j)) = some v := by
    intro n
    induction n with
    | zero =>
      intro i us hl _
      cases us with
      | nil => exact ⟨[], .nil, fun j v hv => by simp at hv⟩
      | cons x us => simp at hl
    | succ n ih =>
      intro i us hl hus
      cases us with
      | nil => simp at hl
      | cons x us =>
        obtain ⟨x', hx, hrel⟩ := s.cell (ha.add (i + 0)) (hus 0 x rfl)
        obtain ⟨us', h1, h2⟩ := ih (i + 1) us (by simpa using hl) (fun j v hv => by have := hus (j + 1) v (by simpa using hv); rwa [show i + (j + 1) = i + 1 + j by omega] at this)
        refine ⟨x' :: us', .cons hrel h1, ?_⟩
        intro j v hv
        cases j with
        | zero => simp at hv; subst hv; exact hx
        | succ j => have := h2 j v (by simpa using hv); rwa [show i + 1 + j = i + (j + 1) by omega] at this
  obtain ⟨us', h1, h2⟩ := this vs.length 0 vs rfl hv
  exact ⟨us', h1, fun j v hv => by simpa using h2 j v hv⟩

/-- A variable, read. -/
theorem loadC_sound (s : Sim B W ρ h w) {a a' : Addr} (ha : ARel B ρ a a') {t : TypeId} {K : Value → Option R} (hk : loadC P h t a K = some r) :
    ∃ v v', K v = some r ∧ VRel B ρ v v' ∧ (loadVar t a').run P w = .ok v' w := by
  unfold loadC at hk
  obtain ⟨b, hb, hk⟩ := aggC_some hk
  obtain ⟨i, z, hi, hz, hp, hk⟩ := zeroC_some hk
  cases b with
  | false =>
    rw [cond_false] at hk
    obtain ⟨v, hv, hk⟩ := ldC_some hk
    obtain ⟨v', hv', hrel⟩ := s.cell ha hv
    exact ⟨v, v', hk, hrel, by simp [loadVar, hb, hv']⟩
  | true =>
    rw [cond_true] at hk
    obtain ⟨i', hi', hk⟩ := sizeC_some hk
    rw [hi] at hi'; cases hi'
    obtain ⟨hsz, hk⟩ := needC_some hk
    have hsz' : z.cells.size = i.size := by simpa using hsz
    obtain ⟨vs, hl, hvs, hk⟩ := ldCellsC_some hk
    obtain ⟨vs', hrel, hc⟩ := s.cells ha hvs
    refine ⟨_, .agg vs'.toArray, hk, .agg (by simpa using hrel), ?_⟩
    have hlen : vs'.length = i.size := by rw [← hrel.length, hl]; simpa using hsz'
    have hr := run_loadCells_list (P := P) w a' vs' hc
    rw [hlen] at hr
    simp [loadVar, hb, sizeOf, typeInfo, hi, hr]
end
end Go.Proofs.Ytcdeeppiljcddaa.AM
