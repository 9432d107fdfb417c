/- AM, the ninth part: operations that make values. Conditions: none. -/
import Derived.Test.YtcdeeppiljcddaaAm8
namespace Go.Proofs.Ytcdeeppiljcddaa.AM
open Go Go.RowKit
set_option linter.unusedSectionVars false
set_option linter.unusedSimpArgs false
set_option linter.unusedVariables false

section
variable {B : Nat} {W : World} {ρ : Places} {h h' : Hp} {w : World} {P : Program} {R : Type} {r : R}

theorem run_mapM_fields (g : Field → Sem (Nat × Nat)) (hg : ∀ f i, P.info? f.type = some i → ∀ w, (g f).run P w = .ok (f.offset, i.size) w) :
    ∀ (l : List Field) (ps : List (Nat × Nat)), (l.mapM fun f => (P.info? f.type).map fun i => (f.offset, i.size)) = some ps → ∀ w, (l.mapM g).run P w = .ok ps w
  | [], ps, hp, w => by simp at hp; subst hp; rfl
  | f :: l, ps, hp, w => by
    rw [List.mapM_cons] at hp
    cases hi : P.info? f.type with
    | none => simp [hi] at hp
    | some i =>
      simp only [hi, Option.map_some, Option.bind_eq_bind, Option.bind_some] at hp
      cases hm : l.mapM (fun f => (P.info? f.type).map fun i => (f.offset, i.size)) with
      | none => simp [hm] at hp
      | some qs =>
        simp [hm] at hp
        subst hp
        rw [List.mapM_cons]
        simp only [Sem.run_bind, hg f i hi, Result.andThen_ok, run_mapM_fields g hg l qs hm w, Sem.run_pure]
theorem run_places {fs : Array Field} {ps : List (Nat × Nat)} (hp : placesOf P fs = some ps) (w : World) (g : Field → Sem (Nat × Nat)) (hg : ∀ f i, P.info? f.type = some i → ∀ w, (g f).run P w = .ok (f.offset, i.size) w) :
    (fs.mapM g).run P w = .ok ps.toArray w := by
  rw [Array.mapM_eq_mapM_toList]
  unfold placesOf at hp
  simp only [Sem.run_map, run_mapM_fields g hg _ _ hp w, Result.andThen_ok]

theorem setIf_rel {cs cs' : Array Value} (hr : VRels B ρ cs.toList cs'.toList) (i : Nat) {v v' : Value} (hv : VRel B ρ v v') : VRels B ρ (cs.setIfInBounds i v).toList (cs'.setIfInBounds i v').toList := by
  simp only [Array.toList_setIfInBounds]
  refine VRels.of_get (by simp [hr.length]) ?_
  intro j u u' hu hu'
  rw [List.getElem?_set] at hu hu'
  have hl := hr.length
  split at hu
  · rename_i e
    rw [if_pos e] at hu'
    split at hu
    · rename_i e2
      rw [if_pos (by omega)] at hu'
      cases hu; cases hu'
      exact hv
    · cases hu
  · rename_i e
    rw [if_neg e] at hu'
    obtain ⟨u2, h1, h2⟩ := hr.get hu
    rw [h1] at hu'
    cases hu'
    exact h2
theorem foldl_rel (off : Nat) : ∀ (l l' : List Value) (k : Nat) (cs cs' : Array Value), VRels B ρ l l' → VRels B ρ cs.toList cs'.toList →
    VRels B ρ ((l.zipIdx k).foldl (fun cs (c, j) => cs.setIfInBounds (off + j) c) cs).toList ((l'.zipIdx k).foldl (fun cs (c, j) => cs.setIfInBounds (off + j) c) cs').toList
  | [], _, k, cs, cs', .nil, hr => by simpa using hr
  | x :: l, y :: l', k, cs, cs', .cons hx hs, hr => by
    simp only [List.zipIdx_cons, List.foldl_cons]
    exact foldl_rel off l l' (k + 1) _ _ hs (setIf_rel hr _ hx)

/-- Parts that go together, each in its place. -/
inductive PRels (B : Nat) (ρ : Places) : List (Nat × Value) → List (Nat × Value) → Prop
  | nil : PRels B ρ [] []
  | cons {i : Nat} {v v' : Value} {l l' : List (Nat × Value)} (hv : VRel B ρ v v') (ho : oneCells v.cells.toList = true) (h : PRels B ρ l l') : PRels B ρ ((i, v) :: l) ((i, v') :: l')
theorem fill_rel (place : Nat → Option (Nat × Nat)) : ∀ {ps ps' : List (Nat × Value)} {cs cs' out : Array Value}, PRels B ρ ps ps' → VRels B ρ cs.toList cs'.toList → Instr.fill place cs ps = some out →
    ∃ out', Instr.fill place cs' ps' = some out' ∧ VRels B ρ out.toList out'.toList
  | _, _, cs, cs', out, .nil, hr, hf => by
    rw [Instr.fill] at hf
    cases hf
    exact ⟨cs', rfl, hr⟩
  | _, _, cs, cs', out, .cons (i := i) (v := v) (v' := v') hv ho hs, hr, hf => by
    rw [Instr.fill] at hf ⊢
    have hc := rel_cells ho hv
    have hl : v.cells.size = v'.cells.size := by simpa using hc.length
    have hl2 : cs.size = cs'.size := by simpa using hr.length
    cases hp : place i with
    | none => rw [hp] at hf; cases hf
    | some q =>
      obtain ⟨off, size⟩ := q
      rw [hp] at hf
      simp only at hf ⊢
      rw [← hl, ← hl2]
      split at hf
      · cases hf
      · rename_i hn
        rw [if_neg hn]
        refine fill_rel place hs ?_ hf
        have e1 : v.cells.zipIdx.toList = v.cells.toList.zipIdx := by simp
        have e2 : v'.cells.zipIdx.toList = v'.cells.toList.zipIdx := by simp
        rw [← Array.foldl_toList, ← Array.foldl_toList, e1, e2]
        exact foldl_rel off _ _ 0 _ _ hc hr
theorem foldl_size (off : Nat) : ∀ (l : List (Value × Nat)) (cs : Array Value), (l.foldl (fun cs (c, j) => cs.setIfInBounds (off + j) c) cs).size = cs.size
  | [], cs => rfl
  | x :: l, cs => by
    rw [List.foldl_cons, foldl_size off l]
    exact Array.size_setIfInBounds
theorem fill_size (place : Nat → Option (Nat × Nat)) : ∀ (ps : List (Nat × Value)) (a b : Array Value), Instr.fill place a ps = some b → b.size = a.size
  | [], a, b, hh => by rw [Instr.fill] at hh; cases hh; rfl
  | (k, u) :: ps, a, b, hh => by
    rw [Instr.fill] at hh
    split at hh
    · cases hh
    · split at hh
      · cases hh
      · rw [fill_size place ps _ _ hh, ← Array.foldl_toList]
        exact foldl_size _ _ _
theorem prels_map {ps : Array (Nat × Operand)} {ev ev' : Operand → Value} (hv : ∀ x ∈ ps.toList.map (·.2), VRel B ρ (ev x) (ev' x)) (ho : (ps.toList.all fun p => oneCells (ev p.2).cells.toList) = true) :
    PRels B ρ (ps.toList.map fun p => (p.1, ev p.2)) (ps.map fun (i, x) => (i, ev' x)).toList := by
  rw [Array.toList_map]
  generalize ps.toList = l at hv ho
  induction l with
  | nil => exact .nil
  | cons p l ih =>
    simp only [List.all_cons, Bool.and_eq_true] at ho
    exact .cons (hv p.2 (by simp)) ho.1 (ih (fun x hx => hv x (by simp at hx ⊢; exact .inr hx)) ho.2)

theorem plain_cells {z : Value} (hz : plainC z = true) : VRels B ρ z.cells.toList z.cells.toList := by
  have := rel_plain (B := B) (ρ := ρ) hz
  cases z with
  | agg cs => cases this with | agg h => exact h
  | _ => exact .cons this .nil

theorem buildC_sound {t : TypeId} {ps : Array (Nat × Operand)} {ev ev' : Operand → Value} (hv : ∀ x ∈ ps.toList.map (·.2), VRel B ρ (ev x) (ev' x)) {K : Value → Option R}
    (hk : (needC (ps.toList.all fun p => oneCells (ev p.2).cells.toList) fun _ => buildC P t (ps.toList.map fun p => (p.1, ev p.2)) K) = some r) (w : World) :
    ∃ v v', K v = some r ∧ VRel B ρ v v' ∧ (Instr.build t (ps.map fun (i, x) => (i, ev' x))).run P w = .ok v' w := by
  obtain ⟨ho, hk⟩ := needC_some hk
  have hp := prels_map hv ho
  unfold buildC at hk
  obtain ⟨i, z, hi, hz, hpl, hk⟩ := zeroC_some hk
  have hzc := plain_cells (B := B) (ρ := ρ) hpl
  split at hk
  · rename_i fs hu
    split at hk
    · rename_i pl hpl2
      split at hk
      · rename_i cs hf
        obtain ⟨cs', hf', hr⟩ := fill_rel _ hp hzc hf
        refine ⟨_, .agg cs', hk, .agg hr, ?_⟩
        have hm := run_places hpl2 w (fun f => do pure (f.offset, ← sizeOf f.type)) (fun f i hi w => by simp [sizeOf, typeInfo, hi])
        have hf2 : Instr.fill (fun i => pl.toArray[i]?) z.cells (ps.map fun (i, x) => (i, ev' x)).toList = some cs' := by
          simpa using hf'
        simp only [Instr.build, Sem.run_bind, zeroValue, typeInfo, run_program, Result.andThen_ok, hi, Sem.run_pure, hz, run_underlying hu]
        rw [hm]
        simp only [Result.andThen_ok]
        rw [hf2]
        rfl
      · cases hk
    · cases hk
  · rename_i n e hu
    obtain ⟨ie, hie, hk⟩ := sizeC_some hk
    split at hk
    · rename_i cs hf
      obtain ⟨cs', hf', hr⟩ := fill_rel _ hp hzc hf
      refine ⟨_, .agg cs', hk, .agg hr, ?_⟩
      simp only [Instr.build, Sem.run_bind, zeroValue, sizeOf, typeInfo, run_program, Result.andThen_ok, hi, hie, Sem.run_pure, hz, run_underlying hu]
      rw [hf']
      rfl
    · cases hk
  · cases hk

theorem zeros_eq (z : Value) (n : Nat) : (zerosOf z n).toArray = (Array.range n).map (z.cells[· % z.cells.size]!) := by
  apply Array.ext'
  simp [zerosOf]
theorem run_buildSlice {t e : TypeId} {i : TypeInfo} {z : Value} (hu : P.underlying t = some (.slice e)) (hi : P.info? e = some i) (hz : i.zero = some z) (n : Nat) (hn : n * i.size ≤ 4096) {ps : Array (Nat × Value)} {cs' : Array Value}
    (hf : Instr.fill (fun k => some (k * i.size, i.size)) (zerosOf z (n * i.size)).toArray ps.toList = some cs') (w : World) :
    (Instr.buildSlice t n ps).run P w = .ok (.slice (some ⟨w.heap.size, 0, none⟩) n n) (w.alloc (.cells cs' e)) := by
  have h24 : ¬ (n * i.size > 2 ^ 24) := by omega
  unfold Instr.buildSlice
  simp only [Sem.run_bind, run_underlying hu, Result.andThen_ok, sizeOf, typeInfo, run_program, hi, Sem.run_pure]
  rw [if_neg h24]
  by_cases h0 : n * i.size = 0
  · have hz0 : zerosOf z (n * i.size) = [] := by rw [h0]; rfl
    rw [hz0] at hf
    simp only [h0, if_true, Sem.run_bind, Sem.run_pure, Result.andThen_ok]
    have e0 : (Array.range 0).map (fun x => (#[] : Array Value)[x % (#[] : Array Value).size]!) = ([] : List Value).toArray := by simp
    rw [e0, hf]
    rfl
  · rw [zeros_eq] at hf
    simp only [h0, if_false, zeroValue, Sem.run_bind, typeInfo, run_program, hi, hz, Sem.run_pure, Result.andThen_ok]
    rw [hf]
    rfl
theorem zeros_rel {z : Value} (hz : plainC z = true) (n : Nat) (hn : z.cells.size = 0 → n = 0) : VRels B ρ (zerosOf z n) (zerosOf z n) := by
  have hc := plain_cells (B := B) (ρ := ρ) hz
  refine VRels.of_get rfl ?_
  intro i v v' hv hv'
  rw [hv] at hv'
  cases hv'
  simp only [zerosOf, List.getElem?_map, Option.map_eq_some_iff, List.getElem?_range] at hv
  obtain ⟨j, hj, rfl⟩ := hv
  by_cases hs : z.cells.size = 0
  · have hn0 := hn hs; rw [hn0] at hj; simp at hj
  · have hlt : j % z.cells.size < z.cells.size := Nat.mod_lt _ (by omega)
    have hg : z.cells.toList[j % z.cells.size]? = some (z.cells[j % z.cells.size]!) := by
      simp [hlt]
    obtain ⟨v', h1, h2⟩ := hc.get hg
    rw [hg] at h1
    cases h1
    exact h2
end
end Go.Proofs.Ytcdeeppiljcddaa.AM
