/- AM, the twentieth part: a region whose order is open comes to the same, in whatever order. Conditions: none. -/
import Derived.Test.YtcdeeppiljcddaaAm19
namespace Go.Proofs.Ytcdeeppiljcddaa.AM
open Go Go.RowKit
set_option linter.unusedSectionVars false
set_option linter.unusedSimpArgs false
set_option linter.unusedVariables false

def dstAt (ops : Array Oper) (j : Nat) : Option Nat := (ops[j]?).bind (·.dst)
/-- The value that the last listed operation gave a slot. -/
def lastW (ops : Array Oper) (val : Nat → Value) (e0 : Env) (S : Nat → Bool) (t : Nat) : Nat → Value
  | 0 => e0.get t
  | n + 1 => if S n = true ∧ dstAt ops n = some t then val n else lastW ops val e0 S t n
section
variable {ops : Array Oper} {val : Nat → Value} {e0 : Env} {S T : Nat → Bool} {t : Nat}
theorem lastW_congr : ∀ (n : Nat), (∀ j, j < n → dstAt ops j = some t → (S j = true ↔ T j = true)) → lastW ops val e0 S t n = lastW ops val e0 T t n
  | 0, _ => rfl
  | n + 1, h => by
    rw [lastW, lastW, lastW_congr n (fun j hj => h j (by omega))]
    by_cases hd : dstAt ops n = some t
    · have := h n (by omega) hd
      simp only [hd, and_true, this]
    · simp [hd]
theorem lastW_cut (i : Nat) : ∀ (n : Nat), i ≤ n → (∀ j, i ≤ j → j < n → dstAt ops j = some t → S j = false) → lastW ops val e0 S t n = lastW ops val e0 S t i
  | 0, h, _ => by have : i = 0 := by omega
                  subst this; rfl
  | n + 1, h, hs => by
    by_cases e : i = n + 1
    · subst e; rfl
    · rw [lastW]
      have : ¬ (S n = true ∧ dstAt ops n = some t) := fun ⟨a, b⟩ => by
        have := hs n (by omega) (by omega) b
        rw [this] at a
        cases a
      rw [if_neg this]
      exact lastW_cut i n (by omega) (fun j h1 h2 => hs j h1 (by omega))
end

section
variable {B : Nat} {W : World} {P : Program} {H : Hint} {call : FuncId → List Value → Hp → Option (Value × Hp)}

theorem wanted_of {ρ : Places} {ops : Array Oper} {o : Oper} {e : Env} {a : Act} {b : Bool} (hg : guardB ops o e = some b) (hr : ∀ t ∈ o.looksAt ops, VRel B ρ (e.get t) (a.tmps.getD t undef)) : Region.wanted o (yielded ops a.tmps) = b := by
  unfold guardB at hg
  split at hg
  · rename_i hgu
    cases hg
    simp [Region.wanted, hgu]
  · rename_i g want hgu
    split at hg
    · rename_i d hd
      have hrel := hr d (by unfold Oper.looksAt; rw [hgu]; simp [hd])
      split at hg
      · rename_i b2 hb
        cases hg
        rw [hb] at hrel
        have htm : a.tmps[d]? = some (.bool b2) := by
          generalize hq : a.tmps.getD d undef = q at hrel
          cases hrel
          rw [Array.getD_eq_getD_getElem?] at hq
          cases hx : a.tmps[d]? with
          | none => rw [hx] at hq; cases hq
          | some u => rw [hx] at hq; simp at hq; rw [hq]
        have hy : yielded ops a.tmps g = some b2 := by
          unfold yielded
          rw [hd]
          simp [htm]
        simp only [Region.wanted, hgu, hy]
        cases b2 <;> cases want <;> rfl
      · rename_i vs hvs
        cases hem : vs.isEmpty <;> rw [hem] at hg
        · cases hg
        · cases hg
          rw [hvs] at hrel
          have hy : yielded ops a.tmps g = none := by
            unfold yielded
            rw [hd]
            generalize hq : a.tmps.getD d undef = q at hrel
            cases hrel
            rw [Array.getD_eq_getD_getElem?] at hq
            cases hx : a.tmps[d]? with
            | none => simp [hx]
            | some u =>
              rw [hx] at hq
              simp at hq
              simp [hx, hq]
          simp [Region.wanted, hgu, hy]
      · cases hg
    · cases hg

theorem drawC_sound (hq : EqOK P H.eqt) (hc : CallOK P B W call) (hcs : CallStep call) {nt : Nat} {ops : Array Oper} (hst : dstsOk nt ops = true) (hd : DrawOK ops) {R : Type} {r : R} {K : Env → Hp → Option R} {Q : Exit → Act → World → Prop}
    {ρ : Places} {e : Env} {h : Hp} {a : Act} {w : World} (hk : drawC P H call ops ops.toList 0 e h [h] K = some r) (s : Sim B W ρ h w) (hf : FrameRel B ρ nt e a)
    (hQ : ∀ ρ' e' h' a' w', LeP ρ ρ' → Sim B W ρ' h' w' → FrameRel B ρ' nt e' a' → K e' h' = some r → Q .normal a' w') :
    wpAny P .any ops Q ops.size (Array.replicate ops.size false) a w := by
  obtain ⟨val, took, E, Hh, Hs, hE0, hH0, _, hT, hHs, en, hen, hfin⟩ := trace hd ops.toList 0 e h [h] (Nat.zero_le _) rfl rfl rfl hk
  have hT' : ∀ j o, ops[j]? = some o → TraceAt P H call ops Hs j o (val j) (took j) (E j) (E (j + 1)) (Hh j) (Hh (j + 1)) := fun j o ho => hT j o (Nat.zero_le _) ho
  have hHs' : ∀ j, j ≤ ops.size → Hs (cnt ops (fun _ => true) j) = Hh j := fun j hj => hHs j (Nat.zero_le _) hj
  -- the text's environments, slot by slot
  have hEl : ∀ t j, j ≤ ops.size → (E j).get t = lastW ops val e (fun _ => true) t j := by
    intro t j
    induction j with
    | zero => intro _; exact hE0 t
    | succ j ih =>
      intro hj
      have hlt : j < ops.size := by omega
      have ho : ops[j]? = some ops[j] := Array.getElem?_eq_getElem hlt
      rw [(hT' j _ ho).env, get_put, ih (by omega), lastW]
      have hds : dstAt ops j = (ops[j]).dst := by simp [dstAt, ho]
      rw [hds]
      by_cases hd2 : (ops[j]).dst = some t
      · simp [hd2]
      · simp [hd2]
  -- all heaps of the run are well numbered
  have hwf0 : HpWf h := ⟨fun r b hb => (s.new_lt hb).2, fun r es hm => (s.maps_lt hm).2⟩
  have hquiet : ∀ j o, ops[j]? = some o → actsB o = false → Hh (j + 1) = Hh j := by
    intro j o ho ha
    have tr := hT' j o ho
    cases hb : took j with
    | false => exact (tr.skip hb).2
    | true =>
      cases hcl : cls o with
      | pure => exact (tr.pure hb hcl).1
      | reads => exact (tr.reads hb hcl).1
      | acts => simp [actsB, hcl] at ha
  have hwf : ∀ j, j ≤ ops.size → HpWf (Hh j) := by
    intro j
    induction j with
    | zero => intro _; rw [hH0]; exact hwf0
    | succ j ih =>
      intro hj
      have hlt : j < ops.size := by omega
      have ho : ops[j]? = some ops[j] := Array.getElem?_eq_getElem hlt
      have tr := hT' j _ ho
      have hw := ih (by omega)
      cases hb : took j with
      | false => rw [(tr.skip hb).2]; exact hw
      | true =>
        cases hcl : cls ops[j] with
        | pure => rw [(tr.pure hb hcl).1]; exact hw
        | reads => rw [(tr.reads hb hcl).1]; exact hw
        | acts =>
          cases hbr : besideRead ops j with
          | false => exact (opC_step hcs (tr.acts hb hcl hbr)).1.wf hw
          | true =>
            obtain ⟨g2, k1, k2, k3⟩ := tr.acts2 hb hcl hbr
            rw [k3]
            exact (relow_step (opC_step hcs k1).1 k2).wf hw
  -- THE INVARIANT, by how many are not listed yet
  have main : ∀ (fuel : Nat) (listed : Array Bool) (ρ' : Places) (a : Act) (w : World), listed.size = ops.size → ((List.range ops.size).filter fun j => !listed.getD j false).length = fuel → Closed ops (fun j => listed.getD j false) →
      (∀ t, VRel B ρ' (lastW ops val e (fun j => listed.getD j false) t ops.size) (a.tmps.getD t undef)) → a.tmps.size = nt → a.defers = [] → Sim B W ρ' (Hs (cnt ops (fun j => listed.getD j false) ops.size)) w → LeP ρ ρ' → wpAny P .any ops Q fuel listed a w := by
    intro fuel
    induction fuel with
    | zero =>
      intro listed ρ' a w hsz hfuel hcl hen2 hts hdf hsim hle
      have hall : ∀ j, j < ops.size → listed.getD j false = true := by
        intro j hj
        cases hb : listed.getD j false with
        | true => rfl
        | false =>
          have : j ∈ (List.range ops.size).filter fun j => !listed.getD j false := by
            rw [List.mem_filter]
            exact ⟨by simpa using hj, by rw [hb]; rfl⟩
          rw [List.length_eq_zero_iff] at hfuel
          rw [hfuel] at this
          cases this
      refine ⟨?_, ?_⟩
      · cases hr : Region.ready .any ops listed with
        | nil => rfl
        | cons i l =>
          have : i ∈ Region.ready .any ops listed := by rw [hr]; simp
          obtain ⟨h1, o, h2, _⟩ := mem_ready.1 this
          have hlt : i < ops.size := by
            rcases Nat.lt_or_ge i ops.size with h | h
            · exact h
            · rw [Array.getElem?_eq_none h] at h2; cases h2
          have := hall i hlt
          simp only [Array.getD_eq_getD_getElem?] at this h1
          rw [Array.getElem?_eq_getElem (by omega)] at this h1
          simp at this h1
          rw [this] at h1
          cases h1
      · have e1 : ∀ t, lastW ops val e (fun j => listed.getD j false) t ops.size = (E ops.size).get t := by
          intro t
          rw [hEl t ops.size (Nat.le_refl _)]
          exact lastW_congr _ fun j hj _ => ⟨fun _ => rfl, fun _ => hall j hj⟩
        have e2 : cnt ops (fun j => listed.getD j false) ops.size = cnt ops (fun _ => true) ops.size := cnt_congr ops _ fun j hj _ => ⟨fun _ => rfl, fun _ => hall j hj⟩
        rw [e2, hHs' _ (Nat.le_refl _)] at hsim
        exact hQ ρ' en (Hh ops.size) a w hle hsim ⟨fun t => by rw [hen, ← e1]; exact hen2 t, hts, hdf⟩ hfin
    | succ fuel ih =>
      intro listed ρ' a w hsz hfuel hcl hen2 hts hdf hsim hle
      have hSlt : ∀ j, listed.getD j false = true → j < ops.size := by
        intro j hj
        rcases Nat.lt_or_ge j listed.size with h | h
        · omega
        · rw [Array.getD_eq_getD_getElem?, Array.getElem?_eq_none h] at hj
          cases hj
      have hgetT : ∀ j, j < ops.size → listed.getD j true = listed.getD j false := by
        intro j hj
        simp only [Array.getD_eq_getD_getElem?]
        rw [Array.getElem?_eq_getElem (by omega)]
        rfl
      refine ⟨?_, ?_⟩
      · -- something is ready
        intro hr
        exfalso
        have hex : ∃ j, j < ops.size ∧ listed.getD j false = false := by
          cases hl : (List.range ops.size).filter fun j => !listed.getD j false with
          | nil => rw [hl] at hfuel; simp at hfuel
          | cons j l =>
            have : j ∈ (List.range ops.size).filter fun j => !listed.getD j false := by rw [hl]; simp
            rw [List.mem_filter] at this
            exact ⟨j, by simpa using this.1, by simpa using this.2⟩
        obtain ⟨j0, hj0, hl0⟩ := hex
        have : ∀ j, j < ops.size → listed.getD j false = false → False := by
          intro j
          induction j using Nat.strongRecOn with
          | _ j ihj =>
            intro hj hlj
            have ho : ops[j]? = some ops[j] := Array.getElem?_eq_getElem hj
            have : j ∈ Region.ready .any ops listed := by
              refine mem_ready.2 ⟨by rw [hgetT j hj]; exact hlj, ops[j], ho, fun e2 he2 hb2 => ?_⟩
              have hlt := hd.lt j _ e2 ho he2 hb2
              cases hq2 : listed.getD e2.on false with
              | true => rfl
              | false => exact (ihj e2.on hlt (by omega) hq2).elim
            rw [hr] at this
            cases this
        exact this j0 hj0 hl0
      · intro i hir
        obtain ⟨hnl, o, ho, hpre⟩ := mem_ready.1 hir
        have hilt : i < ops.size := by
          rcases Nat.lt_or_ge i ops.size with h | h
          · exact h
          · rw [Array.getElem?_eq_none h] at ho; cases ho
        rw [hgetT i hilt] at hnl
        have tr := hT' i o ho
        have hmem : o ∈ ops.toList := List.mem_of_getElem? (by simpa using ho)
        have hso := List.all_eq_true.1 hst o hmem
        simp only [Bool.and_eq_true] at hso
        have hdst : ∀ x, o.dst = some x → x < nt := by
          intro x hx
          have := hso.1
          rw [hx] at this
          exact of_decide_eq_true this
        -- who touches a slot that this one touches is ordered with it
        have hslot : ∀ t, (t ∈ o.looksAt ops ∨ o.dst = some t) → ∀ j y, ops[j]? = some y → y.dst = some t → j ≠ i → (listed.getD j false = true ↔ j < i) := by
          intro t ht j y hy hyd hne
          have hord : ∀ p q x z, p < q → ops[p]? = some x → ops[q]? = some z → ((p = i ∧ q = j) ∨ (p = j ∧ q = i)) → ((Region.before ops).getD q 0).testBit p = true := by
            intro p q x z hpq hx hz hpj
            rcases hd.pair p q x z hpq hx hz with h | ⟨hap, _⟩
            · exact h
            · exfalso
              obtain ⟨a1, a2, a3⟩ := Oper.apart_spec hap
              rcases hpj with ⟨rfl, rfl⟩ | ⟨rfl, rfl⟩
              · rw [ho] at hx; cases hx
                rw [hy] at hz; cases hz
                rcases ht with ht | ht
                · exact a3 t hyd ht
                · exact a2 t ht hyd
              · rw [hy] at hx; cases hx
                rw [ho] at hz; cases hz
                rcases ht with ht | ht
                · exact a1 t hyd ht
                · exact a2 t hyd ht
          exact ready_pairs hd hcl ho hnl hpre hy hne (fun h => hord i j o y h ho hy (.inl ⟨rfl, rfl⟩)) (fun h => hord j i y o h hy ho (.inr ⟨rfl, rfl⟩))
        have hdy : ∀ j t, dstAt ops j = some t → ∃ y, ops[j]? = some y ∧ y.dst = some t := by
          intro j t hj
          unfold dstAt at hj
          obtain ⟨y, h1, h2⟩ := Option.bind_eq_some_iff.1 hj
          exact ⟨y, h1, h2⟩
        have hlook : ∀ t ∈ o.looksAt ops, VRel B ρ' ((E i).get t) (a.tmps.getD t undef) := by
          intro t ht
          rw [hEl t i (by omega)]
          have e1 : lastW ops val e (fun j => listed.getD j false) t ops.size = lastW ops val e (fun j => listed.getD j false) t i :=
            lastW_cut i _ (by omega) fun j h1 h2 h3 => by
              obtain ⟨y, hy, hyd⟩ := hdy j t h3
              by_cases e0 : j = i
              · subst e0; exact hnl
              · have := hslot t (.inl ht) j y hy hyd e0
                cases hb : listed.getD j false with
                | false => rfl
                | true => have := this.1 hb; omega
          have e2 : lastW ops val e (fun j => listed.getD j false) t i = lastW ops val e (fun _ => true) t i :=
            lastW_congr i fun j h1 h3 => by
              obtain ⟨y, hy, hyd⟩ := hdy j t h3
              have := hslot t (.inl ht) j y hy hyd (by omega)
              exact ⟨fun _ => rfl, fun _ => this.2 h1⟩
          rw [← e2, ← e1]
          exact hen2 t
        have hops : ∀ x ∈ o.op.operands.toList, VRel B ρ' ((E i).eval x) (a.eval x) := by
          intro x hx
          have hok := List.all_eq_true.1 hso.2 x hx
          cases x with
          | tmp t => exact hlook t (by unfold Oper.looksAt; rw [List.mem_append]; exact .inl (by rw [List.mem_filterMap]; exact ⟨_, hx, rfl⟩))
          | const v => exact rel_plain hok
          | global g => cases hok
          | func f => exact .func _ .nil .nil
        have hwant := wanted_of (B := B) (ρ := ρ') tr.guard hlook
        -- listing it
        have hS' : ∀ j, (listed.setIfInBounds i true).getD j false = if j = i then true else listed.getD j false := by
          intro j
          simp only [Array.getD_eq_getD_getElem?]
          by_cases e0 : j = i
          · subst e0
            rw [Array.getElem?_setIfInBounds_self_of_lt (by omega)]
            simp
          · rw [Array.getElem?_setIfInBounds_ne (Ne.symm e0)]
            simp [e0]
        have hcl' : Closed ops (fun j => (listed.setIfInBounds i true).getD j false) := by
          intro j y hy hj e2 he2 hb2
          simp only [hS'] at hj ⊢
          by_cases e0 : e2.on = i
          · simp [e0]
          · rw [if_neg e0]
            by_cases e1 : j = i
            · subst e1
              rw [ho] at hy; cases hy
              exact hpre e2 he2 hb2
            · rw [if_neg e1] at hj
              exact hcl j y hy hj e2 he2 hb2
        have hfuel' : ((List.range ops.size).filter fun j => !(listed.setIfInBounds i true).getD j false).length = fuel := by
          have : ∀ (n : Nat), ((List.range n).filter fun j => !listed.getD j false).length = ((List.range n).filter fun j => !(listed.setIfInBounds i true).getD j false).length + (if i < n then 1 else 0) := by
            intro n
            induction n with
            | zero => simp
            | succ n ihn =>
              rw [List.range_succ, List.filter_append, List.filter_append, List.length_append, List.length_append, ihn]
              have := hS' n
              by_cases e0 : n = i
              · subst e0
                rw [if_pos rfl] at this
                simp only [List.filter_cons, List.filter_nil, this, hnl]
                simp
              · rw [if_neg e0] at this
                simp only [List.filter_cons, List.filter_nil, this]
                have e1 : (if i < n then 1 else 0) = (if i < n + 1 then 1 else 0) := by
                  by_cases e2 : i < n
                  · rw [if_pos e2, if_pos (by omega)]
                  · rw [if_neg e2, if_neg (by omega)]
                rw [e1]
                omega
          have := this ops.size
          rw [hfuel, if_pos hilt] at this
          omega
        have henv' : ∀ (ρ2 : Places) (v' : Value), LeP ρ' ρ2 → VRel B ρ2 (val i) v' → ∀ t, VRel B ρ2 (lastW ops val e (fun j => (listed.setIfInBounds i true).getD j false) t ops.size) ((a.put o.dst v').tmps.getD t undef) := by
          intro ρ2 v' hle2 hv2 t
          have hdi : dstAt ops i = o.dst := by simp [dstAt, ho]
          by_cases hdt : o.dst = some t
          · have e1 : lastW ops val e (fun j => (listed.setIfInBounds i true).getD j false) t ops.size = lastW ops val e (fun j => (listed.setIfInBounds i true).getD j false) t (i + 1) :=
              lastW_cut (i + 1) _ (by omega) fun j h1 h2 h3 => by
                obtain ⟨y, hy, hyd⟩ := hdy j t h3
                have := hslot t (.inr hdt) j y hy hyd (by omega)
                rw [hS', if_neg (by omega)]
                cases hb : listed.getD j false with
                | false => rfl
                | true => have := this.1 hb; omega
            rw [e1, lastW, if_pos ⟨by rw [hS', if_pos rfl], by rw [hdi]; exact hdt⟩]
            have hlt : t < a.tmps.size := by rw [hts]; exact hdst t hdt
            rw [hdt]
            simp [Act.put, Array.getD, hlt]
            exact hv2
          · have e1 : lastW ops val e (fun j => (listed.setIfInBounds i true).getD j false) t ops.size = lastW ops val e (fun j => listed.getD j false) t ops.size :=
              lastW_congr _ fun j h1 h3 => by
                have hne : j ≠ i := fun e0 => by subst e0; rw [hdi] at h3; exact hdt h3
                simp only [hS', if_neg hne]
            rw [e1]
            have e2 : (a.put o.dst v').tmps.getD t undef = a.tmps.getD t undef := by
              cases hx : o.dst with
              | none => rfl
              | some x =>
                have hne : x ≠ t := fun e0 => hdt (by rw [hx, e0])
                simp only [Act.put, Array.getD_eq_getD_getElem?]
                rw [Array.getElem?_setIfInBounds_ne hne]
            rw [e2]
            exact (hen2 t).mono hle2
        have hput : ∀ v', (a.put o.dst v').tmps.size = nt ∧ (a.put o.dst v').defers = [] := by
          intro v'
          cases o.dst <;> simp [Act.put, hts, hdf]
        have cont : ∀ (ρ2 : Places) (v' : Value) (w' : World), LeP ρ' ρ2 → VRel B ρ2 (val i) v' → Sim B W ρ2 (Hs (cnt ops (fun j => (listed.setIfInBounds i true).getD j false) ops.size)) w' →
            wpAny P .any ops Q fuel (listed.setIfInBounds i true) (a.put o.dst v') w' := by
          intro ρ2 v' w' hle2 hv2 hs2
          exact ih _ ρ2 _ _ (by simp [hsz]) hfuel' hcl' (henv' ρ2 v' hle2 hv2) (hput v').1 (hput v').2 hs2 (hle.trans hle2)
        -- which heap stands ahead, which behind
        have hactsord : actsB o = true → ∀ j, j < ops.size → j ≠ i → ((ops[j]?).map actsB).getD false = true → (listed.getD j false = true ↔ j < i) := by
          intro hoa j hj hne hja
          have hy : ops[j]? = some ops[j] := Array.getElem?_eq_getElem hj
          rw [hy] at hja
          have hja' : actsB ops[j] = true := by simpa using hja
          refine ready_pairs hd hcl ho hnl hpre hy hne (fun h => ?_) (fun h => ?_)
          · rcases hd.pair i j o _ h ho hy with h | ⟨_, hn, _⟩
            · exact h
            · exact absurd ⟨hoa, hja'⟩ hn
          · rcases hd.pair j i _ o h hy ho with h | ⟨_, hn, _⟩
            · exact h
            · exact absurd ⟨hja', hoa⟩ hn
        have hquietcnt : actsB o = false → cnt ops (fun j => (listed.setIfInBounds i true).getD j false) ops.size = cnt ops (fun j => listed.getD j false) ops.size := by
          intro hoa
          refine cnt_congr ops _ fun j hj hja => ?_
          have hne : j ≠ i := by
            intro e0
            subst e0
            rw [ho] at hja
            simp [hoa] at hja
          simp only [hS', if_neg hne]
        have hactcnt : actsB o = true → Hs (cnt ops (fun j => listed.getD j false) ops.size) = Hh i ∧ Hs (cnt ops (fun j => (listed.setIfInBounds i true).getD j false) ops.size) = Hh (i + 1) := by
          intro hoa
          have e1 : cnt ops (fun j => listed.getD j false) ops.size = cnt ops (upTo i) ops.size := cnt_congr ops _ fun j hj hja => by
            by_cases e0 : j = i
            · subst e0
              simp only [hnl, upTo]
              simp
            · have := hactsord hoa j hj e0 hja
              simp only [this, upTo, decide_eq_true_eq]
          have e2 : cnt ops (fun j => (listed.setIfInBounds i true).getD j false) ops.size = cnt ops (upTo (i + 1)) ops.size := cnt_congr ops _ fun j hj hja => by
            simp only [hS', upTo, decide_eq_true_eq]
            by_cases e0 : j = i
            · subst e0
              simp
            · rw [if_neg e0]
              have := hactsord hoa j hj e0 hja
              simp only [this]
              omega
          rw [e1, e2, cnt_upTo ops i _ (by omega), cnt_upTo ops (i + 1) _ (by omega), cnt_full, cnt_full, hHs' i (by omega), hHs' (i + 1) (by omega)]
          exact ⟨rfl, rfl⟩
        unfold wpOp
        rw [ho]
        dsimp only
        rw [hwant]
        cases hb : took i with
        | false =>
          rw [if_neg (by simp)]
          obtain ⟨hv0, hg0⟩ := tr.skip hb
          have hval : val i = undef := hv0
          refine cont ρ' undef w (LeP.refl _) (by rw [hval]; exact .tuple .nil) ?_
          cases hoa : actsB o with
          | false => rw [hquietcnt hoa]; exact hsim
          | true =>
            obtain ⟨k1, k2⟩ := hactcnt hoa
            rw [k2, hg0, ← k1]
            exact hsim
        | true =>
          rw [if_pos rfl]
          left
          cases hcls : cls o with
          | pure =>
            have hoa : actsB o = false := by simp [actsB, hcls]
            have hp := opC_pure_some (Hs (cnt ops (fun j => listed.getD j false) ops.size)) hcls (tr.pure hb hcls).2
            refine op_wp' hq hc hsim hops hp ?_
            rintro v' w' ⟨ρ2, hle2, s2, hv2⟩
            exact cont ρ2 v' w' hle2 hv2 (by rw [hquietcnt hoa]; exact s2)
          | reads =>
            have hoa : actsB o = false := by simp [actsB, hcls]
            have hor : readsB o = true := by simp [readsB, hcls]
            -- the heap that it reads lies in the one that stands
            have hleH : HpLe (Hs (actsAhead ops i)) (Hs (cnt ops (fun j => listed.getD j false) ops.size)) := by
              have bit_acts : ∀ p q, p < q → ((ops[p]?).map actsB).getD false = true → ((ops[q]?).map actsB).getD false = true → ((Region.before ops).getD q 0).testBit p = true := by
                intro p q hpq hpa hqa
                cases hx : ops[p]? with
                | none => rw [hx] at hpa; cases hpa
                | some x =>
                  cases hz : ops[q]? with
                  | none => rw [hz] at hqa; cases hqa
                  | some z =>
                    rw [hx] at hpa
                    rw [hz] at hqa
                    rcases hd.pair p q x z hpq hx hz with h | ⟨_, hn, _⟩
                    · exact h
                    · exact absurd ⟨by simpa using hpa, by simpa using hqa⟩ hn
              have hinS : ∀ q, ((Region.before ops).getD i 0).testBit q = true → listed.getD q false = true := closed_before hcl hd.lt i o ho hpre
              have hbefore_closed := before_trans hd.lt i
              obtain ⟨j1, hj1, hx1⟩ := acts_prefix (ops := ops) (X := fun j => ((Region.before ops).getD i 0).testBit j) (fun p q hpq hpa hqa hq => hbefore_closed q p hq (bit_acts p q hpq hpa hqa)) ops.size
              obtain ⟨j2, hj2, hx2⟩ := acts_prefix (ops := ops) (X := fun j => listed.getD j false) (fun p q hpq hpa hqa hq => by
                cases hz : ops[q]? with
                | none => rw [hz] at hqa; cases hqa
                | some z => exact closed_before hcl hd.lt q z hz (hcl q z hz hq) p (bit_acts p q hpq hpa hqa)) ops.size
              have e1 : actsAhead ops i = cnt ops (fun _ => true) (min j1 j2) := by
                rw [actsAhead_cnt, cnt_congr ops (T := upTo (min j1 j2)) _ (fun q hq hqa => ?_), cnt_upTo ops _ _ (by omega), cnt_full]
                have a1 := hx1 q hq hqa
                have a2 := hx2 q hq hqa
                simp only [upTo, decide_eq_true_eq]
                constructor
                · intro hb2
                  have := a1.1 hb2
                  have := a2.1 (hinS q hb2)
                  omega
                · intro hlt
                  exact a1.2 (by omega)
              have e2 : cnt ops (fun j => listed.getD j false) ops.size = cnt ops (fun _ => true) j2 := by
                rw [cnt_congr ops (T := upTo j2) _ (fun q hq hqa => by simp only [upTo, decide_eq_true_eq]; exact hx2 q hq hqa), cnt_upTo ops _ _ hj2, cnt_full]
              rw [e1, e2, hHs' _ (by omega), hHs' _ hj2]
              have chain : ∀ j, min j1 j2 ≤ j → j ≤ j2 → HpLe (Hh (min j1 j2)) (Hh j) := by
                intro j
                induction j with
                | zero => intro h1 _; have : min j1 j2 = 0 := by omega
                          rw [this]; exact HpLe.refl _
                | succ j ihj =>
                  intro h1 h2
                  by_cases e0 : min j1 j2 = j + 1
                  · rw [e0]; exact HpLe.refl _
                  · have hprev := ihj (by omega) (by omega)
                    have hjlt : j < ops.size := by omega
                    have hy : ops[j]? = some ops[j] := Array.getElem?_eq_getElem hjlt
                    refine hprev.trans ?_
                    cases hya : actsB ops[j] with
                    | false => rw [hquiet j _ hy hya]; exact HpLe.refl _
                    | true =>
                      have hya' : ((ops[j]?).map actsB).getD false = true := by rw [hy]; simpa using hya
                      have hSj : listed.getD j false = true := (hx2 j hjlt hya').2 (by omega)
                      have hnb : ((Region.before ops).getD i 0).testBit j = false := by
                        cases hb2 : ((Region.before ops).getD i 0).testBit j with
                        | false => rfl
                        | true => have := (hx1 j hjlt hya').1 hb2; omega
                      have hnb2 : ((Region.before ops).getD j 0).testBit i = false := by
                        cases hb2 : ((Region.before ops).getD j 0).testBit i with
                        | false => rfl
                        | true =>
                          have := closed_before hcl hd.lt j _ hy (hcl j _ hy hSj) i hb2
                          rw [hnl] at this
                          cases this
                      have hji : j ≠ i := fun e0 => by subst e0; rw [hnl] at hSj; cases hSj
                      have hmk : makesB ops[j] = true := by
                        rcases Nat.lt_or_gt_of_ne hji with hlt | hgt
                        · rcases hd.pair j i _ o hlt hy ho with h | ⟨_, _, _, h⟩
                          · rw [hnb] at h; cases h
                          · exact h hya hor
                        · rcases hd.pair i j o _ hgt ho hy with h | ⟨_, _, h, _⟩
                          · rw [hnb2] at h; cases h
                          · exact h hor hya
                      have trj := hT' j _ hy
                      cases htj : took j with
                      | false => rw [(trj.skip htj).2]; exact HpLe.refl _
                      | true =>
                        have hclj : cls ops[j] = .acts := by
                          unfold actsB at hya
                          split at hya
                          · assumption
                          · cases hya
                        cases hcb : callB ops[j] with
                        | false =>
                          have hbr : besideRead ops j = false := by
                            unfold besideRead
                            rw [hy]
                            simp [hcb]
                          exact (opC_step hcs (trj.acts htj hclj hbr)).2 hmk hcb (hwf j (by omega))
                        | true =>
                          have hbr : besideRead ops j = true := by
                            unfold besideRead
                            rw [hy]
                            simp only [Option.map_some, hcb, Option.getD_some, Bool.true_and, List.any_eq_true]
                            exact ⟨i, by simpa using hilt, by rw [ho]; simp only [Option.map_some, hor, Option.getD_some, hnb, hnb2]; rfl⟩
                          obtain ⟨g2, k1, k2, k3⟩ := trj.acts2 htj hclj hbr
                          rw [k3]
                          exact le_of_low (hwf j (by omega)) (opC_step hcs k1).1 k2
              exact chain j2 (by omega) (Nat.le_refl _)
            have hp := opC_reads_le hcls hleH (fun a v hav => hsim.new_old (hsim.old a v (by rw [hleH.old]; exact hav)).1) (tr.reads hb hcls).2
            refine op_wp' hq hc hsim hops hp ?_
            rintro v' w' ⟨ρ2, hle2, s2, hv2⟩
            exact cont ρ2 v' w' hle2 hv2 (by rw [hquietcnt hoa]; exact s2)
          | acts =>
            have hoa : actsB o = true := by simp [actsB, hcls]
            obtain ⟨k1, k2⟩ := hactcnt hoa
            rw [k1] at hsim
            cases hbr : besideRead ops i with
            | false =>
              refine op_wp' hq hc hsim hops (tr.acts hb hcls hbr) ?_
              rintro v' w' ⟨ρ2, hle2, s2, hv2⟩
              exact cont ρ2 v' w' hle2 hv2 (by rw [k2]; exact s2)
            | true =>
              obtain ⟨g2, m1, m2, m3⟩ := tr.acts2 hb hcls hbr
              refine op_wp' hq hc (hsim.relow (Hh i).next) hops m1 ?_
              rintro v' w' ⟨ρ2, hle2, s2, hv2⟩
              refine cont ρ2 v' w' hle2 hv2 ?_
              rw [k2, m3]
              exact s2.relow _
  have hS0 : ∀ j, (Array.replicate ops.size false).getD j false = false := by
    intro j
    rw [Array.getD_eq_getD_getElem?, Array.getElem?_replicate]
    split <;> rfl
  refine main ops.size _ ρ a w (by simp) ?_ ?_ ?_ hf.size hf.defers ?_ (LeP.refl _)
  · have : (List.range ops.size).filter (fun j => !(Array.replicate ops.size false).getD j false) = List.range ops.size := by
      rw [List.filter_eq_self]
      intro j _
      rw [hS0]
      rfl
    rw [this]
    simp
  · intro j y _ hj
    have hj2 : (Array.replicate ops.size false).getD j false = true := hj
    rw [hS0] at hj2
    cases hj2
  · intro t
    have : lastW ops val e (fun j => (Array.replicate ops.size false).getD j false) t ops.size = e.get t := by
      rw [lastW_cut 0 _ (Nat.zero_le _) (fun j _ _ _ => hS0 j)]
      rfl
    rw [this]
    exact hf.env t
  · have : cnt ops (fun j => (Array.replicate ops.size false).getD j false) ops.size = cnt ops (fun _ => true) 0 := by
      rw [cnt_congr ops (T := upTo 0) _ (fun j _ _ => by rw [hS0]; simp [upTo]), cnt_upTo ops 0 _ (Nat.zero_le _)]
      rfl
    rw [this, hHs' 0 (Nat.zero_le _), hH0]
    exact s
end
end Go.Proofs.Ytcdeeppiljcddaa.AM
