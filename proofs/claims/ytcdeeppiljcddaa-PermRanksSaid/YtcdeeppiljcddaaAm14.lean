/- AM, the fourteenth part: every operation but the call of a function. Conditions: none. -/
import Derived.Test.YtcdeeppiljcddaaAm13
namespace Go.Proofs.Ytcdeeppiljcddaa.AM
open Go Go.RowKit
set_option linter.unusedSectionVars false
set_option linter.unusedSimpArgs false
set_option linter.unusedVariables false

section
variable {B : Nat} {W : World} {ρ : Places} {h h' : Hp} {w : World} {P : Program}

theorem rels_args {args : Array Operand} {ev ev' : Operand → Value} (hv : ∀ x ∈ args.toList, VRel B ρ (ev x) (ev' x)) : VRels B ρ (args.toList.map ev) (args.map ev').toList := by
  rw [Array.toList_map]
  exact VRels.map _ hv

theorem part_sound {t : TypeId} {cs cs' : List Value} (hr : VRels B ρ cs cs') {off : Nat} {R : Type} {r : R} {K : Value → Option R} (hk : partC P t cs off K = some r) (w : World) :
    ∃ v v', K v = some r ∧ VRel B ρ v v' ∧ (part t cs'.toArray off).run P w = .ok v' w := by
  unfold partC at hk
  obtain ⟨b, hb, hk1⟩ := aggC_some hk
  clear hk
  cases b with
  | true =>
    rw [cond_true] at hk1
    obtain ⟨i, hi, hk⟩ := sizeC_some hk1
    refine ⟨_, .agg ((cs'.drop off).take i.size).toArray, hk, .agg (by simpa using (hr.drop off).take i.size), ?_⟩
    simp only [part, Sem.run_bind, hb, Result.andThen_ok, if_true, sizeOf, typeInfo, run_program, hi, Sem.run_pure]
    congr 2
    apply Array.ext'
    simp [List.extract_eq_take_drop]
  | false =>
    rw [cond_false] at hk1
    obtain ⟨_, z, _, _, _, hk2⟩ := zeroC_some hk1
    clear hk1
    split at hk2
    · rename_i v hv
      obtain ⟨v', h1, h2⟩ := hr.get hv
      refine ⟨v, v', like1C_some hk2, h2, ?_⟩
      have : cs'.toArray[off]? = some v' := by simpa using h1
      simp only [part, Sem.run_bind, hb, Result.andThen_ok, Bool.false_eq_true, if_false, this, Sem.run_pure]
    · cases hk2

set_option maxHeartbeats 4000000 in
/-- ONE OPERATION, not a call of a function: what the evaluator says comes about. -/
theorem opC_sound {H : Hint} (hq : EqOK P H.eqt) {call : FuncId → List Value → Hp → Option (Value × Hp)} (s : Sim B W ρ h w) {ev ev' : Operand → Value} {o : Oper} (hv : ∀ x ∈ o.op.operands.toList, VRel B ρ (ev x) (ev' x)) {v : Value}
    (hb : callB o = false) (hk : opC P H call ev o h (fun v h => some (v, h)) = some (v, h')) :
    ∃ n v' w', (execOp ev' o).run P w = .ok n w' ∧ (n = .value v' ∨ (n = .skip ∧ v' = undef)) ∧ Post B W ρ h' v v' w' := by
  have val : ∀ {v' : Value} {w' : World} {m : Sem Value}, execOp ev' o = (do pure (.value (← m)) : Sem Next) → m.run P w = .ok v' w' → Post B W ρ h' v v' w' →
      ∃ n v' w', (execOp ev' o).run P w = .ok n w' ∧ (n = .value v' ∨ (n = .skip ∧ v' = undef)) ∧ Post B W ρ h' v v' w' := by
    intro v' w' m he hm hp
    exact ⟨_, v', w', by rw [he]; simp [hm], .inl rfl, hp⟩
  obtain ⟨dst, op, type, pos, after, guard⟩ := o
  unfold opC at hk
  dsimp only at hk hv
  split at hk
  · -- move
    rename_i x
    cases hk
    exact ⟨_, ev' x, w, rfl, .inl rfl, Post.same s (hv x (by simp [Op.operands]))⟩
  · -- assign
    rename_i x
    cases hk
    exact ⟨_, ev' x, w, rfl, .inl rfl, Post.same s (hv x (by simp [Op.operands]))⟩
  · -- pick
    rename_i c a b
    have hX := asBoolC_some hk
    clear hk
    obtain ⟨t, hc, hk⟩ := hX
    have hc' := hv c (by simp [Op.operands])
    rw [hc] at hc'
    generalize hcc : ev' c = cc at hc'
    cases hc'
    cases t with
    | true => cases hk; exact ⟨_, ev' a, w, by simp [execOp, hcc, asBool], .inl rfl, Post.same s (hv a (by simp [Op.operands]))⟩
    | false => cases hk; exact ⟨_, ev' b, w, by simp [execOp, hcc, asBool], .inl rfl, Post.same s (hv b (by simp [Op.operands]))⟩
  · -- alloc
    rename_i t
    obtain ⟨i, z, hi, hz, hp, hk1⟩ := zeroC_some hk
    cases hk1
    have hzc := plain_cells (B := B) (ρ := ρ) hp
    have S := s.fresh z.cells.toList 0 z.cells t (by simp) (fun j u hu => by
      obtain ⟨u', a, b⟩ := hzc.get hu
      exact ⟨u', by simpa using a, b⟩) []
    refine val (m := Instr.alloc t true (.tuple #[])) rfl (v' := .pointer (some ⟨w.heap.size, 0, none⟩)) ?_ ⟨_, addP_le s.next_none _, S, ?_⟩
    · simp [Instr.alloc, zeroValue, typeInfo, hi, hz, newVar, newRow]
    · have hp := VRel.ptrNew (B := B) (ρ := addP ρ h.next ⟨w.heap.size, 0, z.cells.size, 0⟩) (r := h.next) (o := 0) (addP_self _ _)
      exact hp
  · -- box
    rename_i t x
    obtain ⟨hone, hk1⟩ := needC_some hk
    cases hk1
    have hzc := rel_cells hone (hv x (by simp [Op.operands]))
    have S := s.fresh (ev x).cells.toList 0 (ev' x).cells t (by rw [hzc.length]; simp) (fun j u hu => by
      obtain ⟨u', a, b⟩ := hzc.get hu
      exact ⟨u', by simpa using a, b⟩) []
    refine val (m := Instr.box t (ev' x)) rfl (v' := .pointer (some ⟨w.heap.size, 0, none⟩)) ?_ ⟨_, addP_le s.next_none _, S, ?_⟩
    · simp [Instr.box, newVar, newRow]
    · have hp := VRel.ptrNew (B := B) (ρ := addP ρ h.next ⟨w.heap.size, 0, (ev' x).cells.size, 0⟩) (r := h.next) (o := 0) (addP_self _ _)
      exact hp
  · -- build
    rename_i t parts
    obtain ⟨u, u', h1, h2, h3⟩ := buildC_sound (P := P) (ρ := ρ) (B := B) (ev' := ev') (fun x hx => hv x (by simpa [Op.operands] using hx)) hk w
    cases h1
    exact val rfl h3 (Post.same s h2)
  · -- buildSlice
    rename_i t n parts
    obtain ⟨e, hu, hk1⟩ := elemC_some hk
    clear hk
    obtain ⟨i, hi, hk⟩ := sizeC_some hk1
    clear hk1
    obtain ⟨hn, hk1⟩ := needC_some hk
    clear hk
    simp only [Bool.and_eq_true, decide_eq_true_eq] at hn
    obtain ⟨i', z, hi', hz, hp, hk⟩ := zeroC_some hk1
    clear hk1
    rw [hi] at hi'; cases hi'
    have hps := prels_map (B := B) (ρ := ρ) (ps := parts) (ev := ev) (ev' := ev') (fun x hx => hv x (by simpa [Op.operands] using hx)) hn.2
    obtain ⟨hzs, hk1⟩ := needC_some hk
    clear hk
    have hzs' := of_decide_eq_true hzs
    split at hk1
    · rename_i cs hf
      cases hk1
      have hzr := zeros_rel (B := B) (ρ := ρ) hp (n * i.size) (fun h0 => by rw [← hzs', h0, Nat.mul_zero])
      obtain ⟨cs', hf', hr⟩ := fill_rel (B := B) (ρ := ρ) _ hps (cs := (zerosOf z (n * i.size)).toArray) (cs' := (zerosOf z (n * i.size)).toArray) (by simpa using hzr) hf
      have hcs' : cs'.size = n * i.size := by
        rw [fill_size _ _ _ _ hf']
        simp [zerosOf]
      have S := s.fresh cs.toList i.size cs' e (by rw [hr.length]; simp) (fun j u hu => by
        obtain ⟨u', a, b⟩ := hr.get hu
        exact ⟨u', by simpa using a, b⟩) []
      refine val (m := Instr.buildSlice t n (parts.map fun (i, x) => (i, ev' x))) rfl (v' := .slice (some ⟨w.heap.size, 0, none⟩) n n) (w' := w.alloc (.cells cs' e)) ?_ ⟨_, addP_le s.next_none _, S, ?_⟩
      · exact run_buildSlice hu hi hz n hn.1 hf' w
      · have hp := VRel.slNew (B := B) (ρ := addP ρ h.next ⟨w.heap.size, 0, cs'.size, i.size⟩) (r := h.next) (o := 0) (n := n) (c := n) (addP_self _ _) (Nat.le_refl _) (by simp [hcs'])
        exact hp
    · cases hk1
  · -- load
    rename_i t x
    have hX := asPtrC_some hk
    clear hk
    obtain ⟨a, ha, hk⟩ := hX
    have hx := hv x (by simp [Op.operands])
    rw [ha] at hx
    cases a with
    | none => cases hk
    | some ad =>
      obtain ⟨ad', e1, har⟩ := rel_ptr hx
      obtain ⟨u, u', h1, h2, h3⟩ := loadC_sound s har hk
      cases h1
      exact val rfl (by simp [Instr.loadAt, e1, Instr.sureAddr, h3]) (Post.same s h2)
  · -- store
    rename_i t x y
    have hX := asPtrC_some hk
    clear hk
    obtain ⟨a, ha, hk⟩ := hX
    have hx := hv x (by simp [Op.operands])
    rw [ha] at hx
    cases a with
    | none => cases hk
    | some ad =>
      obtain ⟨i, hi, hk1⟩ := sizeC_some hk
      clear hk
      obtain ⟨hs, hk⟩ := needC_some hk1
      clear hk1
      have hs' : (ev y).cells.size = i.size := of_decide_eq_true hs
      have hone : oneCells (ev y).cells.toList = true := by
        unfold Hp.stC at hk
        split at hk
        · obtain ⟨hb2, _⟩ := needC_some hk
          simp only [Bool.and_eq_true] at hb2
          exact hb2.2
        · cases hk
      have hc := rel_cells hone (hv y (by simp [Op.operands]))
      obtain ⟨h2, a', w', k1, k2, k3, k4⟩ := stC_sound (P := P) s hx hc hk
      cases k1
      refine ⟨.skip, undef, w', ?_, .inr ⟨rfl, rfl⟩, ρ, LeP.refl ρ, k4, .tuple .nil⟩
      have hsz : (ev' y).cells.size = i.size := by
        have := hc.length
        simp at this
        omega
      simp [execOp, Instr.storeAt, k2, Instr.sureAddr, storeVar, sizeOf, typeInfo, hi, hsz, k3]
  · -- nilCheck
    rename_i x
    have hx := hv x (by simp [Op.operands])
    split at hk
    · rename_i a ha
      rw [ha] at hx
      cases a with
      | none => cases hk
      | some ad =>
        cases hk
        obtain ⟨ad', e1, har⟩ := rel_ptr hx
        exact ⟨_, .pointer (some ad'), w, by simp [execOp, e1], .inl rfl, Post.same s har.ptr⟩
    · rename_i g f c hf
      cases hk
      rw [hf] at hx
      generalize he : ev' x = e at hx
      cases hx with
      | func _ a b => exact ⟨_, _, w, by simp [execOp, he], .inl rfl, Post.same s (.func _ a b)⟩
    · cases hk
  · -- binOp
    rename_i op t x y ty
    obtain ⟨u, h1, h2, h3⟩ := binC_sound hq (X := x) (Y := y) (hv x (by simp [Op.operands])) (hv y (by simp [Op.operands])) hk w
    cases h1
    exact val rfl h3 (Post.same s h2)
  · -- unOp
    rename_i op t x
    obtain ⟨u, h1, h2, h3⟩ := unC_sound (P := P) (hv x (by simp [Op.operands])) hk w
    cases h1
    exact val rfl h3 (Post.same s h2)
  · -- convert
    rename_i a b x
    obtain ⟨u, h1, h2, h3⟩ := convC_sound s (hv x (by simp [Op.operands])) hk
    cases h1
    exact val rfl h3 (Post.same s h2)
  · -- makeFunc
    rename_i fn first captured
    cases hk
    refine val (m := Instr.makeFunc fn (first.map ev') (captured.map ev')) rfl (v' := .func fn (first.map ev') (captured.map ev')) rfl (Post.same s (.func fn ?_ ?_))
    · simp only [Array.toList_map]
      exact VRels.map _ fun x hx => hv x (by simp [Op.operands]; exact .inl (by simpa using hx))
    · simp only [Array.toList_map]
      exact VRels.map _ fun x hx => hv x (by simp [Op.operands]; exact .inr (by simpa using hx))
  · -- makeMap
    rename_i t
    obtain ⟨k, e, hu, hk1⟩ := mapTypeC_some hk
    cases hk1
    refine val (m := Instr.makeMap t none) rfl (v' := .map (some w.heap.size)) (w' := w.alloc (.map #[] 0)) ?_ ⟨_, addP_le s.next_none _, s.newMap, ?_⟩
    · simp [Instr.makeMap]
    · exact VRel.mapNew (l := ⟨w.heap.size, 0, 0, 0⟩) (addP_self _ _)
  · -- makeSlice
    rename_i t l c
    obtain ⟨e, hu, hk1⟩ := elemC_some hk
    clear hk
    split at hk1
    · rename_i i hi
      obtain ⟨i', z, hi', hz, hp, hk⟩ := zeroC_some hk1
      clear hk1
      rw [hi] at hi'; cases hi'
      split at hk
      · rename_i k1 n hl
        split at hk
        · rename_i k2 m hc
          obtain ⟨hb1, hk1⟩ := needC_some hk
          clear hk
          cases hk1
          simp only [Bool.and_eq_true, decide_eq_true_eq] at hb1
          obtain ⟨⟨⟨b1, b2⟩, b3⟩, b4⟩ := hb1
          have hl' := hv l (by simp [Op.operands])
          have hc' := hv c (by simp [Op.operands])
          rw [hl] at hl'
          rw [hc] at hc'
          generalize hel : ev' l = el at hl'
          generalize hec : ev' c = ec at hc'
          cases hl'
          cases hc'
          obtain ⟨nn, rfl⟩ : ∃ k : Nat, n = k := ⟨n.toNat, by omega⟩
          obtain ⟨mm, rfl⟩ : ∃ k : Nat, m = k := ⟨m.toNat, by omega⟩
          have b3' : mm * (i.bytes + 1) ≤ 70368744177664 := by
            have : ((mm * (i.bytes + 1) : Nat) : Int) ≤ 70368744177664 := by
              rw [Int.natCast_mul]
              exact b3
            omega
          have hmm := need_small b3'
          have hby : mm * i.bytes ≤ 70368744177664 := by
            have : mm * (i.bytes + 1) = mm * i.bytes + mm := Nat.mul_succ _ _
            omega
          have hrun := run_make (P := P) w t e i z hu hi hz k1 k2 (nn : Int) (mm : Int) (by omega) b2 (by rw [← Int.natCast_mul, Nat.mul_comm]; omega) (by omega)
          simp only [Int.toNat_natCast] at hrun
          have hzr := zeros_rel (B := B) (ρ := ρ) hp (mm * i.size) (fun h0 => by rw [← b4, h0, Nat.mul_zero])
          have hpre : ∀ (j : Nat) (u : Value), (zerosOf z (nn * i.size))[j]? = some u → (zerosOf z (mm * i.size))[j]? = some u := by
            intro j u hu
            simp only [zerosOf, List.getElem?_map, Option.map_eq_some_iff] at hu ⊢
            obtain ⟨q, hq, rfl⟩ := hu
            refine ⟨q, ?_, rfl⟩
            have hjn : j < nn * i.size := by
              rcases Nat.lt_or_ge j (nn * i.size) with hx | hx
              · exact hx
              · rw [List.getElem?_eq_none (by simpa using hx)] at hq; cases hq
            have hle : nn * i.size ≤ mm * i.size := Nat.mul_le_mul_right _ (by omega)
            rw [List.getElem?_range hjn] at hq
            rw [List.getElem?_range (by omega)]
            exact hq
          have S := s.fresh (zerosOf z (nn * i.size)) i.size (madeCells z.cells (mm * i.size)) e (by
              rw [size_madeCells]
              simp only [zerosOf, List.length_map, List.length_range]
              exact Nat.mul_le_mul_right _ (by omega)) (fun j u hu => by
            obtain ⟨u', a, b⟩ := hzr.get (hpre j u hu)
            refine ⟨u', ?_, b⟩
            have hmade : madeCells z.cells (mm * i.size) = (zerosOf z (mm * i.size)).toArray := (zeros_eq z _).symm
            rw [hmade]
            simpa using a) []
          refine val (m := Instr.makeSlice t (ev' l) (ev' c)) rfl (v' := .slice (some ⟨w.heap.size, 0, none⟩) nn mm) (by rw [hel, hec]; exact hrun) ⟨_, addP_le s.next_none _, S, ?_⟩
          have hp := VRel.slNew (B := B) (ρ := addP ρ h.next ⟨w.heap.size, 0, (madeCells z.cells (mm * i.size)).size, i.size⟩) (r := h.next) (o := 0) (n := nn) (c := mm) (addP_self _ _) (by omega) (by simp [size_madeCells])
          simpa using hp
        · cases hk
      · cases hk
    · cases hk1
  · -- slice
    rename_i t x lo hi
    have bnd : ∀ (o : Option Operand), (∀ y, o = some y → VRel B ρ (ev y) (ev' y)) → (0 ≤ (o.map fun v => boundV (ev v)).getD 0) → Bnd (o.map ev') (o.map fun v => boundV (ev v)) := by
      intro o ho h0
      cases o with
      | none => exact .inl ⟨rfl, rfl⟩
      | some y =>
        have hy := ho y rfl
        simp only [Option.map_some, Option.getD_some] at h0 ⊢
        generalize ev y = a at hy h0
        generalize ev' y = b at hy
        cases hy <;> first
          | exact .inr ⟨_, _, rfl, rfl⟩
          | (simp [junk, boundV] at h0; done)
          | (simp [boundV] at h0; done)
    have hlo : ∀ y, lo = some y → VRel B ρ (ev y) (ev' y) := fun y hy => hv y (by subst hy; simp [Op.operands])
    have hhi : ∀ y, hi = some y → VRel B ρ (ev y) (ev' y) := fun y hy => hv y (by subst hy; simp [Op.operands])
    have hx := hv x (by simp [Op.operands])
    split at hk
    · rename_i hu
      have hX := asStrC_some hk
      clear hk
      obtain ⟨b, hb2, hk⟩ := hX
      rw [hb2] at hx
      generalize hex : ev' x = ex at hx
      cases hx
      obtain ⟨hn, hk1⟩ := needC_some hk
      clear hk
      cases hk1
      simp only [Bool.and_eq_true, decide_eq_true_eq] at hn
      obtain ⟨⟨n1, n2⟩, n3⟩ := hn
      have hsh : ∀ {lo' hi' : Option Value} {l m : Option Int}, Bnd lo' l → Bnd hi' m → 0 ≤ l.getD 0 → l.getD 0 ≤ m.getD b.size → m.getD b.size ≤ (b.size : Int) →
          (Instr.sliceAt t (.string b) lo' hi' none).run P w = .ok (.string (b.extract (l.getD 0).toNat (m.getD b.size).toNat)) w := by
        intro lo' hi' l m hl hm g1 g2 g3
        rcases hl with ⟨rfl, rfl⟩ | ⟨k, z, rfl, rfl⟩ <;> rcases hm with ⟨rfl, rfl⟩ | ⟨k', z', rfl, rfl⟩
        · simp [Instr.sliceAt, run_underlying hu, Instr.slice, Instr.sliceBounds]
        · have e1 : 0 ≤ z' := by simpa using g2
          have e2 : z' ≤ (b.size : Int) := by simpa using g3
          simp [Instr.sliceAt, run_underlying hu, Instr.slice, Instr.sliceBounds, Instr.sliceBound, asIntOf, e1, e2]
        · have e1 : 0 ≤ z := by simpa using g1
          have e2 : z ≤ (b.size : Int) := by simpa using g2
          simp [Instr.sliceAt, run_underlying hu, Instr.slice, Instr.sliceBounds, Instr.sliceBound, asIntOf, e1, e2]
        · have e1 : 0 ≤ z := by simpa using g1
          have e2 : z ≤ z' := by simpa using g2
          have e3 : z' ≤ (b.size : Int) := by simpa using g3
          have e4 : 0 ≤ z' := by omega
          have e5 : z ≤ (z'.toNat : Int) := by omega
          have e6 : ¬ max z' 0 < z := by omega
          simp [Instr.sliceAt, run_underlying hu, Instr.slice, Instr.sliceBounds, Instr.sliceBound, asIntOf, e1, e3, e4, e5, e6]
      have hB2 : Bnd (hi.map ev') (hi.map fun v => boundV (ev v)) := by
        cases hi with
        | none => exact .inl ⟨rfl, rfl⟩
        | some y => exact bnd (some y) hhi (by simp only [Option.map_some, Option.getD_some] at n2 ⊢; omega)
      have hrun := hsh (bnd lo hlo n1) hB2 n1 n2 n3
      exact val (m := Instr.sliceAt t (ev' x) (lo.map ev') (hi.map ev') none) rfl (by rw [hex]; exact hrun) (Post.same s (.string _))
    · rename_i e hu
      obtain ⟨i, hi2, hk1⟩ := sizeC_some hk
      clear hk
      have hX := asSliceC_some hk1
      clear hk1
      obtain ⟨a, n, c, ha, hk⟩ := hX
      rw [ha] at hx
      have hneg : ∀ (o : Option Operand), ¬ (0 ≤ (o.map fun v => boundV (ev v)).getD 0) ∨ (0 ≤ (o.map fun v => boundV (ev v)).getD 0) := fun o => by omega
      have hkeep := hk
      have h12 : 0 ≤ (lo.map fun v => boundV (ev v)).getD 0 ∧ 0 ≤ (hi.map fun v => boundV (ev v)).getD 0 := by
        have hd : ∀ (q : Option Int) (k : Nat), 0 ≤ q.getD (k : Int) → 0 ≤ q.getD 0 := by
          intro q k hq
          cases q with
          | none => simp
          | some z => exact hq
        unfold cutC cutT at hk
        split at hk
        · obtain ⟨hb2, _⟩ := needC_some hk
          simp only [Bool.and_eq_true, decide_eq_true_eq] at hb2
          omega
        · rename_i ad
          cases hdd : decide (ad.block < h.base) <;> rw [hdd] at hk <;> simp only [cond_true, cond_false] at hk
          · split at hk
            · obtain ⟨hb2, _⟩ := needC_some hk
              simp only [Bool.and_eq_true, decide_eq_true_eq] at hb2
              exact ⟨hb2.1.1.1.1, hd _ n (by omega)⟩
            · cases hk
          · obtain ⟨hb2, _⟩ := needC_some hk
            simp only [Bool.and_eq_true, decide_eq_true_eq] at hb2
            exact ⟨hb2.1.1.1, hd _ n (by omega)⟩
      obtain ⟨u, u', k1, k2, k3⟩ := cutC_sound s hu hi2 hx (bnd lo hlo h12.1) (bnd hi hhi h12.2) hkeep
      cases k1
      exact val (m := Instr.sliceAt t (ev' x) (lo.map ev') (hi.map ev') none) rfl k3 (Post.same s k2)
    · cases hk
  · -- fieldAddr
    rename_i t x f
    unfold fieldC at hk
    split at hk
    · rename_i fs hu
      split at hk
      · rename_i fd hfd
        obtain ⟨i, hi, hk1⟩ := sizeC_some hk
        clear hk
        obtain ⟨hs0, hk⟩ := needC_some hk1
        clear hk1
        have hX := asPtrC_some hk
        clear hk
        obtain ⟨a, ha, hk⟩ := hX
        have hx := hv x (by simp [Op.operands])
        rw [ha] at hx
        cases a with
        | none => cases hk
        | some ad =>
          cases hk
          obtain ⟨ad', e1, har⟩ := rel_ptr hx
          have hs0' : ¬ i.size = 0 := by simpa using hs0
          refine val (m := Instr.fieldAt t (ev' x) f) rfl (v' := .pointer (some (ad'.add fd.offset))) ?_ (Post.same s (har.add _).ptr)
          simp only [Instr.fieldAt, Sem.run_bind, run_underlying hu, Result.andThen_ok, hfd, e1, Instr.sureAddr, Sem.run_pure, fieldPlace, sizeOf, typeInfo, run_program, hi, hs0', if_false]
      · cases hk
    · cases hk
  · -- field
    rename_i t x f
    unfold fieldC at hk
    split at hk
    · rename_i fs hu
      split at hk
      · rename_i fd hfd
        have hX := asAggC_some hk
        clear hk
        obtain ⟨cs, hcs, hk⟩ := hX
        have hx := hv x (by simp [Op.operands])
        rw [hcs] at hx
        generalize hex : ev' x = ex at hx
        cases hx with
        | agg hr =>
          rename_i ds
          obtain ⟨u, u', k1, k2, k3⟩ := part_sound hr hk w
          cases k1
          refine val (m := Instr.field t (ev' x) f) rfl (v' := u') ?_ (Post.same s k2)
          have e : ds.toList.toArray = ds := by simp
          rw [e] at k3
          simp only [Instr.field, Sem.run_bind, run_underlying hu, Result.andThen_ok, hfd, hex, asAgg, Sem.run_pure]
          exact k3
      · cases hk
    · cases hk
  · -- indexAddr
    rename_i t x i
    have hx := hv x (by simp [Op.operands])
    have hii := hv i (by simp [Op.operands])
    split at hk
    · rename_i e hu
      obtain ⟨inf, hi, hk1⟩ := sizeC_some hk
      clear hk
      have hX := asSliceC_some hk1
      clear hk1
      obtain ⟨a, n, c, ha, hk⟩ := hX
      rw [ha] at hx
      split at hk
      · rename_i k j hj
        rw [hj] at hii
        generalize hei : ev' i = ei at hii
        cases hii
        obtain ⟨ad, rfl, g1, g2, hk1⟩ := idxC_some hk
        cases hk1
        obtain ⟨ad', c', e2, har⟩ := rel_slice_addr hx (by omega)
        exact val (m := Instr.indexAt t (ev' x) (ev' i)) rfl (by rw [hei, e2]; exact run_indexAt_slice hu hi ad' n c' k j g1 g2 w) (Post.same s (har.add _).ptr)
      · cases hk
    · rename_i n e hu
      obtain ⟨inf, hi, hk1⟩ := sizeC_some hk
      clear hk
      have hX := asPtrC_some hk1
      clear hk1
      obtain ⟨a, ha, hk⟩ := hX
      rw [ha] at hx
      split at hk
      · rename_i k j hj
        rw [hj] at hii
        generalize hei : ev' i = ei at hii
        cases hii
        obtain ⟨ad, rfl, g1, g2, hk1⟩ := idxC_some hk
        cases hk1
        obtain ⟨ad', e2, har⟩ := rel_ptr hx
        exact val (m := Instr.indexAt t (ev' x) (ev' i)) rfl (by rw [hei, e2]; exact run_indexAt_array hu hi ad' k j g1 g2 w) (Post.same s (har.add _).ptr)
      · cases hk
    · cases hk
  · -- index
    rename_i t x i
    have hx := hv x (by simp [Op.operands])
    have hii := hv i (by simp [Op.operands])
    split at hk
    · rename_i hu
      have hX := asStrC_some hk
      clear hk
      obtain ⟨b, hb2, hk⟩ := hX
      rw [hb2] at hx
      split at hk
      · rename_i k j hj
        rw [hj] at hii
        generalize hei : ev' i = ei at hii
        generalize hex : ev' x = ex at hx
        cases hii
        cases hx
        obtain ⟨hn, hk1⟩ := needC_some hk
        clear hk
        cases hk1
        simp only [Bool.and_eq_true, decide_eq_true_eq] at hn
        have hlt : j.toNat < b.size := by omega
        refine val (m := Instr.index t (ev' x) (ev' i)) rfl (v' := .int .u8 (b[j.toNat]!).toNat) ?_ (Post.same s (.int _ _))
        rw [hei, hex]
        have hg : b[j.toNat]? = some (b[j.toNat]!) := by
          rw [getElem?_pos b j.toNat hlt, getElem!_pos b j.toNat hlt]
        simp only [Instr.index, asIntOf, Sem.run_bind, Sem.run_pure, Result.andThen_ok, run_underlying hu, hn.1, if_true, hg]
      · cases hk
    · rename_i n e hu
      obtain ⟨inf, hi, hk1⟩ := sizeC_some hk
      clear hk
      have hX := asAggC_some hk1
      clear hk1
      obtain ⟨cs, hcs, hk⟩ := hX
      rw [hcs] at hx
      split at hk
      · rename_i k j hj
        rw [hj] at hii
        generalize hei : ev' i = ei at hii
        generalize hex : ev' x = ex at hx
        cases hii
        cases hx with
        | agg hr =>
          rename_i ds
          obtain ⟨hn, hk1⟩ := needC_some hk
          clear hk
          simp only [Bool.and_eq_true, decide_eq_true_eq] at hn
          obtain ⟨u, u', k1, k2, k3⟩ := part_sound hr hk1 w
          cases k1
          refine val (m := Instr.index t (ev' x) (ev' i)) rfl (v' := u') ?_ (Post.same s k2)
          have e3 : ds.toList.toArray = ds := by simp
          rw [e3] at k3
          rw [hei, hex]
          simp only [Instr.index, asIntOf, Sem.run_bind, Sem.run_pure, Result.andThen_ok, run_underlying hu, hn, and_self, if_true, sizeOf, typeInfo, run_program, hi]
          exact k3
      · cases hk
    · cases hk
  · -- lookup
    rename_i t x i ok
    obtain ⟨u, u', h1, h2, h3⟩ := lookC_sound s (hv x (by simp [Op.operands])) (hv i (by simp [Op.operands])) hk
    cases h1
    exact val rfl h3 (Post.same s h2)
  · -- mapUpdate
    rename_i t m k x
    obtain ⟨h2, w', h1, h3, h4⟩ := mapPutC_sound s (hv m (by simp [Op.operands])) (hv k (by simp [Op.operands])) (hv x (by simp [Op.operands])) hk
    cases h1
    exact ⟨.skip, undef, w', by simp [execOp, h3], .inr ⟨rfl, rfl⟩, ρ, LeP.refl ρ, h4, .tuple .nil⟩
  · -- extract
    rename_i x i
    have hx := hv x (by simp [Op.operands])
    split at hk
    · rename_i vs hvs
      rw [hvs] at hx
      split at hk
      · rename_i u hu
        cases hk
        generalize he : ev' x = e at hx
        cases hx with
        | tuple hh =>
          obtain ⟨u', a, b⟩ := hh.get hu
          rename_i d
          have a' : d[i]? = some u' := by rw [← Array.getElem?_toList]; exact a
          exact val (m := Instr.extract (ev' x) i) rfl (by simp [he, Instr.extract, a']) (Post.same s b)
      · cases hk
    · cases hk
  · -- builtins
    rename_i b args ts
    have hargs := rels_args (B := B) (ρ := ρ) (args := args) (ev := ev) (ev' := ev') (fun x hx => hv x (by simpa [Op.operands, Call.operands] using hx))
    have hargs2 : VRels B ρ (args.map ev).toList (args.map ev').toList := by rw [Array.toList_map (xs := args)]; exact hargs
    have eargs : (args.map ev).toList = args.toList.map ev := Array.toList_map
    rw [← eargs] at hk
    have bi : ∀ {v' : Value} {w' : World} {m : Sem Value}, (∀ cs, builtin b ts type cs (args.map ev') = (do pure (.value (← m)) : Sem Next)) → m.run P w = .ok v' w' → Post B W ρ h' v v' w' →
        ∃ n v' w', (execOp ev' { dst := dst, op := .call { callee := .builtin b, args := args, argTypes := ts }, type := type, pos := pos, after := after, guard := guard }).run P w = .ok n w' ∧ (n = .value v' ∨ (n = .skip ∧ v' = undef)) ∧ Post B W ρ h' v v' w' := by
      intro v' w' m he hm hp
      refine ⟨.value v', v', w', ?_, .inl rfl, hp⟩
      simp only [execOp, Sem.run_bind, resolve, Sem.run_pure, Result.andThen_ok, invoke]
      rw [he]
      simp [hm]
    split at hk
    · -- len
      obtain ⟨u, h1, h2, h3⟩ := lenC_sound s (as := (args.map ev)) (ty := type) hargs2 (K := fun v => some (v, h)) hk
      cases h1
      exact bi (fun _ => rfl) h3 (Post.same s h2)
    · -- append
      unfold appendC at hk
      split at hk
      · rename_i t tx sl x hts has
        have ets : ts = #[t, tx] := by apply Array.ext'; exact hts
        rw [has] at hargs2
        obtain ⟨sl', x', eas, hsl, hx⟩ := rels_two hargs2
        obtain ⟨e, hu, hk1⟩ := elemC_some hk
        clear hk
        obtain ⟨i, hi, hk⟩ := sizeC_some hk1
        clear hk1
        obtain ⟨i', z, hi', hz, hp, hk1⟩ := zeroC_some hk
        clear hk
        rw [hi] at hi'; cases hi'
        obtain ⟨hzs, hk⟩ := needC_some hk1
        clear hk1
        have hzs' := of_decide_eq_true hzs
        rw [hi] at hk
        dsimp only at hk
        have fin : ∀ {u : Value} {hh : Hp} {u' : Value} {w' : World}, some (u, hh) = some (v, h') → (Builtin.append_ #[t, tx] type #[sl', x']).run P w = .ok u' w' → Post B W ρ hh u u' w' →
            ∃ n v' w', (execOp ev' { dst := dst, op := .call { callee := .builtin .append, args := args, argTypes := ts }, type := type, pos := pos, after := after, guard := guard }).run P w = .ok n w' ∧ (n = .value v' ∨ (n = .skip ∧ v' = undef)) ∧ Post B W ρ h' v v' w' := by
          intro u hh u' w' e1 e2 e3
          cases e1
          refine bi (m := Builtin.append_ #[t, tx] type #[sl', x']) (fun _ => ?_) e2 e3
          rw [ets, eas]
          rfl
        split at hk
        · rename_i e' hux
          have hX := asSliceC_some hk
          clear hk
          obtain ⟨a, n, c, rfl, hk⟩ := hX
          have hX := asSliceC_some hk
          clear hk
          obtain ⟨b, m, d, rfl, hk⟩ := hX
          obtain ⟨vs, vs', b', d2, h1, h2, rfl, h3, h4⟩ := srcC_slice s hx (Nat.le_refl m) hk
          have hsrc : vs.length = m * i.size → oneCells vs = true → Src P i.size tx (.slice b' m d2) m vs' w := by
            intro hl ho
            cases b with
            | none =>
              obtain ⟨rfl, rfl⟩ := h3 rfl
              cases h2
              have hm : m = 0 := by
                generalize hq : Value.slice none m d = q at hx
                cases hx with
                | slNil => cases hq; rfl
                | _ => cases hq
              subst hm
              exact Src.ofNil w hux d2
            | some ad =>
              obtain ⟨hl2, ad', rfl, hc⟩ := h4 ad rfl
              exact Src.ofSlice w hux ad' m d2 vs' (by rw [← h2.length, hl2]) hc (oneCells_one ho h2)
          obtain ⟨u, hh, u', w', k1, k2, k3⟩ := growC_sound s (ty := type) (tx := tx) hu hi hz hzs' hsl h2 (fun ho hl => hsrc hl ho) (fun hm => by
            subst hm
            have hv0 : vs = [] := by
              cases b with
              | none => exact (h3 rfl).2
              | some ad =>
                have := (h4 ad rfl).1
                cases vs with
                | nil => rfl
                | cons x l => simp at this
            subst hv0
            cases h2
            exact hsrc (by simp) rfl) h1
          exact fin k1 k2 k3
        · rename_i hux
          have hX := asSliceC_some hk
          clear hk
          obtain ⟨a, n, c, rfl, hk⟩ := hX
          have hX := asStrC_some hk
          clear hk
          obtain ⟨b, rfl, hk⟩ := hX
          cases hx
          unfold srcC at hk
          obtain ⟨hs1, hk1⟩ := needC_some hk
          clear hk
          have hs1' : i.size = 1 := of_decide_eq_true hs1
          have hall : (b.data.toList.take b.size) = b.data.toList := List.take_of_length_le (by simp)
          rw [hall] at hk1
          have hsrc : Src P i.size tx (.string b) b.size (byteCells b) w := by
            rw [hs1']
            exact Src.ofString w hux b
          obtain ⟨u, hh, u', w', k1, k2, k3⟩ := growC_sound s (ty := type) (tx := tx) hu hi hz hzs' hsl (vs' := byteCells b) (VRels.map (f := fun x : UInt8 => Value.int .u8 x.toNat) (g := fun x : UInt8 => Value.int .u8 x.toNat) _ fun x _ => .int _ _) (fun _ _ => hsrc) (fun hm => by
            have hb0 : byteCells b = [] := by
              have := byteCells_length b
              rw [hm] at this
              exact List.eq_nil_of_length_eq_zero this
            rw [hb0, hm] at hsrc
            exact hsrc) hk1
          exact fin k1 k2 k3
        · cases hk
      · cases hk
    · -- copy
      obtain ⟨u, hh, u', w', h1, h3, h4⟩ := copyC_sound s (as := (args.map ev)) (ty := type) hargs2 (K := fun v h => some (v, h)) hk
      cases h1
      exact bi (fun _ => rfl) h3 h4
    · -- min
      obtain ⟨u, h1, h2, h3⟩ := mostC_sound (P := P) (w := w) false (as := (args.map ev)) (ts := ts) (ty := type) hargs2 (K := fun v => some (v, h)) hk
      cases h1
      exact bi (fun _ => rfl) (by simpa using h3) (Post.same s h2)
    · -- max
      obtain ⟨u, h1, h2, h3⟩ := mostC_sound (P := P) (w := w) true (as := (args.map ev)) (ts := ts) (ty := type) hargs2 (K := fun v => some (v, h)) hk
      cases h1
      exact bi (fun _ => rfl) (by simpa using h3) (Post.same s h2)
    · -- delete
      obtain ⟨u, hh, u', w', h1, h3, h4⟩ := mapDropC_sound s (as := (args.map ev)) (ty := type) hargs2 (K := fun v h => some (v, h)) hk
      cases h1
      exact bi (fun _ => rfl) h3 h4
    · cases hk
  · simp [callB] at hb
  · cases hk
end
end Go.Proofs.Ytcdeeppiljcddaa.AM
