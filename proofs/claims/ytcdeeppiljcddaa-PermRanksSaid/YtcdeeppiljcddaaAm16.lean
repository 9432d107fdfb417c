/- AM, the sixteenth part: what an operation leaves of the heap as it was. Conditions: none. -/
import Derived.Test.YtcdeeppiljcddaaAm15
namespace Go.Proofs.Ytcdeeppiljcddaa.AM
open Go Go.RowKit
set_option linter.unusedSectionVars false
set_option linter.unusedSimpArgs false
set_option linter.unusedVariables false

/-- All numbers are below the next one. -/
structure HpWf (h : Hp) : Prop where
  new : ∀ r b, h.new r = some b → r < h.next
  maps : ∀ r es, h.maps r = some es → r < h.next
/-- From one heap to a later one: what is not written stays. -/
structure HpStep (h h' : Hp) : Prop where
  base : h'.base = h.base
  old : h'.old = h.old
  next : h.next ≤ h'.next
  low : h'.low ≤ h.low
  new : ∀ r b, r < h.next → r < h'.low → h.new r = some b → ∃ b', h'.new r = some b' ∧ b'.cells = b.cells ∧ b'.sz = b.sz
  maps : ∀ r es, r < h.next → r < h'.low → h.maps r = some es → h'.maps r = some es
  wf : HpWf h → HpWf h'
theorem HpStep.refl (h : Hp) : HpStep h h := ⟨rfl, rfl, Nat.le_refl _, Nat.le_refl _, fun r b _ _ hb => ⟨b, hb, rfl, rfl⟩, fun _ _ _ _ h => h, id⟩
theorem HpStep.trans {a b c : Hp} (x : HpStep a b) (y : HpStep b c) : HpStep a c :=
  ⟨y.base.trans x.base, y.old.trans x.old, Nat.le_trans x.next y.next, Nat.le_trans y.low x.low,
   fun r bl h1 h2 h3 => by
    obtain ⟨b1, k1, k2, k3⟩ := x.new r bl h1 (Nat.lt_of_lt_of_le h2 y.low) h3
    obtain ⟨b2, l1, l2, l3⟩ := y.new r b1 (Nat.lt_of_lt_of_le h1 x.next) h2 k1
    exact ⟨b2, l1, l2.trans k2, l3.trans k3⟩,
   fun r es h1 h2 h3 => y.maps r es (Nat.lt_of_lt_of_le h1 x.next) h2 (x.maps r es h1 (Nat.lt_of_lt_of_le h2 y.low) h3), fun hw => y.wf (x.wf hw)⟩
/-- A later heap in which all is as it was, and more. -/
structure HpLe (h h' : Hp) : Prop where
  base : h'.base = h.base
  old : h'.old = h.old
  new : ∀ r b, h.new r = some b → ∃ b', h'.new r = some b' ∧ b'.cells = b.cells ∧ b'.sz = b.sz
  maps : ∀ r es, h.maps r = some es → h'.maps r = some es
theorem HpLe.refl (h : Hp) : HpLe h h := ⟨rfl, rfl, fun r b hb => ⟨b, hb, rfl, rfl⟩, fun _ _ h => h⟩
theorem HpLe.trans {a b c : Hp} (x : HpLe a b) (y : HpLe b c) : HpLe a c :=
  ⟨y.base.trans x.base, y.old.trans x.old, fun r bl h3 => by
    obtain ⟨b1, k1, k2, k3⟩ := x.new r bl h3
    obtain ⟨b2, l1, l2, l3⟩ := y.new r b1 k1
    exact ⟨b2, l1, l2.trans k2, l3.trans k3⟩, fun r es h3 => y.maps r es (x.maps r es h3)⟩

section
variable {h h' : Hp}
theorem step_alloc (h : Hp) (cs : List Value) (sz : Nat) (par : List Nat) : HpStep h (h.alloc cs sz par) :=
  ⟨rfl, rfl, Nat.le_succ _, Nat.le_refl _, fun r b h1 _ hb => ⟨b, by rw [alloc_new, if_neg (by omega)]; exact hb, rfl, rfl⟩, fun _ _ _ _ h => h, fun hw =>
    ⟨fun r b hb => by
      show r < h.next + 1
      rw [alloc_new] at hb
      split at hb
      · omega
      · have := hw.new r b hb; omega, fun r es hm => by
      show r < h.next + 1
      have := hw.maps r es hm
      omega⟩⟩
theorem wf_seal {h : Hp} (hw : HpWf h) (q : Nat) : HpWf (h.fence q) :=
  ⟨fun r b hb => by
    obtain ⟨b0, h0⟩ : ∃ b0, h.new r = some b0 := by
      rw [seal_new] at hb
      split at hb
      · obtain ⟨b0, h0, _⟩ := Option.map_eq_some_iff.1 hb; exact ⟨b0, h0⟩
      · exact ⟨b, hb⟩
    exact hw.new r b0 h0, hw.maps⟩
theorem step_seal (h : Hp) (q : Nat) : HpStep h (h.fence q) :=
  ⟨rfl, rfl, Nat.le_refl _, Nat.le_refl _, fun r b h1 _ hb => by
    rw [seal_new]
    split
    · exact ⟨{ b with rw := false }, by rw [hb]; rfl, rfl, rfl⟩
    · exact ⟨b, hb, rfl, rfl⟩, fun _ _ _ _ h => h, fun hw => wf_seal hw q⟩
theorem fold_min_mem : ∀ (l : List Nat) (r q : Nat), q < l.foldl min r → q < r ∧ q ∉ l
  | [], r, q, h => ⟨h, by simp⟩
  | x :: l, r, q, h => by
    obtain ⟨a, b⟩ := fold_min_mem l (min r x) q h
    exact ⟨by omega, by simp only [List.mem_cons, not_or]; exact ⟨by omega, b⟩⟩
theorem step_write (h : Hp) (q : Nat) (b b0 : Blk) (hq : h.new q = some b0) (o : Nat) (vs : List Value) : HpStep h (h.write q b o vs) :=
  ⟨rfl, rfl, Nat.le_refl _, Nat.min_le_left _ _, fun r b2 h1 h2 hb => by
    have h2' : r < min h.low (b.par.foldl min q) := h2
    obtain ⟨x, y⟩ := fold_min_mem b.par q r (by omega)
    exact ⟨b2, by rw [write_new, if_neg (by omega), if_neg y]; exact hb, rfl, rfl⟩, fun _ _ _ _ h => h, fun hw =>
    ⟨fun r b2 hb => by
      rw [write_new] at hb
      split at hb
      · rename_i e; subst e; exact hw.new r b0 hq
      · split at hb
        · cases hb
        · exact hw.new r b2 hb, hw.maps⟩⟩
theorem step_putMap (h : Hp) (q : Nat) (es es0 : List (Value × Value)) (hq : h.maps q = some es0) : HpStep h (h.putMap q es) :=
  ⟨rfl, rfl, Nat.le_refl _, Nat.min_le_left _ _, fun r b2 h1 h2 hb => ⟨b2, hb, rfl, rfl⟩, fun r es2 h1 h2 hm => by
    have h2' : r < min h.low q := h2
    unfold Hp.putMap
    have : (r == q) = false := by simp; omega
    simp only [this, cond_false]
    exact hm, fun hw => ⟨hw.new, fun r es2 hm => by
      unfold Hp.putMap at hm
      by_cases e : r = q
      · subst e; exact hw.maps r es0 hq
      · have : (r == q) = false := by simpa using e
        simp only [this, cond_false] at hm
        exact hw.maps r es2 hm⟩⟩
theorem step_allocMap (h : Hp) : HpStep h h.allocMap :=
  ⟨rfl, rfl, Nat.le_succ _, Nat.le_refl _, fun r b2 h1 h2 hb => ⟨b2, hb, rfl, rfl⟩, fun r es2 h1 h2 hm => by
    unfold Hp.allocMap
    have : (r == h.next) = false := by simp; omega
    simp only [this, cond_false]
    exact hm, fun hw => ⟨fun r b hb => by
      show r < h.next + 1
      have := hw.new r b hb
      omega, fun r es2 hm => by
      show r < h.next + 1
      unfold Hp.allocMap at hm
      by_cases e : r = h.next
      · omega
      · have : (r == h.next) = false := by simpa using e
        simp only [this, cond_false] at hm
        have := hw.maps r es2 hm
        omega⟩⟩

variable {P : Program} {H : Hint} {call : FuncId → List Value → Hp → Option (Value × Hp)}

/-- An operation that does not act hands on the heap that it was given. -/
theorem opC_ext {R : Type} {ev : Operand → Value} {o : Oper} {K K' : Value → Hp → Option R} (hc : actsB o = false) (hK : ∀ v, K v h = K' v h) : opC P H call ev o h K = opC P H call ev o h K' := by
  unfold opC
  split <;> first
    | (simp only [hK]; done)
    | (rename_i heq; simp [actsB, cls, heq] at hc; done)
    | skip
  rename_i b args ts heq
  cases b <;> first
    | rfl
    | (simp only [hK]; done)
    | (simp [actsB, cls, heq] at hc; done)
theorem opC_quiet {ev : Operand → Value} {o : Oper} {v : Value} (hc : actsB o = false) (hk : opC P H call ev o h (fun v h => some (v, h)) = some (v, h')) : h' = h := by
  rw [opC_ext hc (K' := fun v _ => some (v, h)) (fun _ => rfl), opC_eq] at hk
  obtain ⟨q, _, hq⟩ := Option.bind_eq_some_iff.1 hk
  cases hq
  rfl
/-- A pure one does not ask for the heap. -/
theorem opC_pure {R : Type} {ev : Operand → Value} {o : Oper} {K : Value → Option R} (h2 : Hp) (hc : cls o = .pure) : opC P H call ev o h (fun v _ => K v) = opC P H call ev o h2 (fun v _ => K v) := by
  unfold opC
  split <;> first
    | rfl
    | (rename_i heq; simp [cls, heq] at hc; done)
    | skip
  rename_i b args ts heq
  cases b <;> first
    | rfl
    | (simp [cls, heq] at hc; done)
theorem opC_pure_some {ev : Operand → Value} {o : Oper} {v : Value} (h2 : Hp) (hc : cls o = .pure) (hk : opC P H call ev o h (fun v h => some (v, h)) = some (v, h')) : opC P H call ev o h2 (fun v h => some (v, h)) = some (v, h2) := by
  have ha : actsB o = false := by simp [actsB, hc]
  rw [opC_ext ha (K' := fun v _ => some (v, h)) (fun _ => rfl)] at hk
  rw [opC_ext ha (K' := fun v _ => some (v, h2)) (fun _ => rfl)]
  have e1 : opC P H call ev o h (fun v _ => some (v, h)) = (opC P H call ev o h (fun v _ => some v)).bind fun v => some (v, h) := by rw [opC_bind]; rfl
  have e2 : opC P H call ev o h2 (fun v _ => some (v, h2)) = (opC P H call ev o h2 (fun v _ => some v)).bind fun v => some (v, h2) := by rw [opC_bind]; rfl
  rw [e2, ← opC_pure (h := h) h2 hc]
  rw [e1] at hk
  obtain ⟨u, hu, hq⟩ := Option.bind_eq_some_iff.1 hk
  cases hq
  rw [hu]
  rfl

theorem HpLe.cell (hle : HpLe h h') (hw : ∀ a v, h.old a = some v → h'.new a.block = none) {a : Addr} {v : Value} (hv : h.cell a = some v) : h'.cell a = some v := by
  unfold Hp.cell at hv ⊢
  cases hb : h.new a.block with
  | none =>
    rw [hb] at hv
    rw [hw a v hv, hle.old]
    exact hv
  | some b =>
    rw [hb] at hv
    obtain ⟨b', h1, h2, _⟩ := hle.new _ b hb
    rw [h1]
    simp only [h2]
    exact hv
theorem ldC_le {R : Type} {z : Value} {a : Addr} {K : Value → Option R} {r : R} (hcell : ∀ a v, h.cell a = some v → h'.cell a = some v) (hk : h.ldC z a K = some r) : h'.ldC z a K = some r := by
  unfold Hp.ldC at hk ⊢
  split at hk
  · rename_i v hv
    rw [hcell _ _ hv]
    exact hk
  · cases hk
theorem ldCellsC_le {R : Type} {a : Addr} {r : R} (hcell : ∀ a v, h.cell a = some v → h'.cell a = some v) : ∀ {zs : List Value} {i : Nat} {K : List Value → Option R}, h.ldCellsC a zs i K = some r → h'.ldCellsC a zs i K = some r
  | [], i, K, hk => hk
  | z :: zs, i, K, hk => by
    rw [Hp.ldCellsC] at hk ⊢
    unfold Hp.ldC at hk ⊢
    split at hk
    · rename_i v hv
      rw [hcell _ _ hv]
      have e1 := like1C_bind (fun u => h.ldCellsC a zs (i + 1) fun us => K (u :: us)) z v some
      have e2 := like1C_bind (fun u => h'.ldCellsC a zs (i + 1) fun us => K (u :: us)) z v some
      simp only [Option.bind_some] at e1 e2
      rw [← e1] at hk
      dsimp only
      rw [← e2]
      obtain ⟨u, hu, hk1⟩ := Option.bind_eq_some_iff.1 hk
      rw [hu]
      exact ldCellsC_le hcell hk1
    · cases hk
theorem loadC_le {R : Type} {t : TypeId} {a : Addr} {K : Value → Option R} {r : R} (hcell : ∀ a v, h.cell a = some v → h'.cell a = some v) (hk : loadC P h t a K = some r) : loadC P h' t a K = some r := by
  unfold loadC at hk ⊢
  have body : ∀ b, (zeroC P t fun z => bif b then sizeC P t fun s => needC (decide (z.cells.size = s)) fun _ => h.ldCellsC a z.cells.toList 0 fun us => K (.agg us.toArray) else h.ldC z a K) = some r →
      (zeroC P t fun z => bif b then sizeC P t fun s => needC (decide (z.cells.size = s)) fun _ => h'.ldCellsC a z.cells.toList 0 fun us => K (.agg us.toArray) else h'.ldC z a K) = some r := by
    intro b hb
    unfold zeroC at hb ⊢
    split at hb <;> try cases hb
    split at hb <;> try cases hb
    obtain ⟨hn, hb1⟩ := needC_some hb
    rw [hn]
    show (bif b then _ else _) = _
    dsimp only at hb1
    cases b with
    | false => exact ldC_le hcell hb1
    | true =>
      rw [cond_true] at hb1 ⊢
      unfold sizeC at hb1 ⊢
      split at hb1 <;> try cases hb1
      obtain ⟨hn2, hb2⟩ := needC_some hb1
      dsimp only
      rw [hn2]
      exact ldCellsC_le hcell hb2
  unfold aggC at hk ⊢
  split at hk
  · exact body _ hk
  · exact body _ hk
  · exact body _ hk
  · cases hk
theorem mapAtC_le {R : Type} {x : Value} {K : List (Value × Value) → Option R} {r : R} (hle : HpLe h h') (hk : mapAtC h x K = some r) : mapAtC h' x K = some r := by
  unfold mapAtC at hk ⊢
  unfold asMapC at hk ⊢
  split at hk
  · dsimp only at hk ⊢
    split at hk
    · exact hk
    · split at hk
      · rename_i es hes
        rw [hle.maps _ _ hes]
        exact hk
      · cases hk
  · cases hk
theorem cutC_le {R : Type} {a : Option Addr} {n c s : Nat} {lo hi : Option Int} {K : Value → Option R} {r : R} (hle : HpLe h h') (hk : cutC h a n c s lo hi K = some r) : cutC h' a n c s lo hi K = some r := by
  unfold cutC cutT at hk ⊢
  split at hk
  · exact hk
  · rename_i ad
    rw [hle.base]
    cases hd : decide (ad.block < h.base) <;> rw [hd] at hk <;> simp only [cond_true, cond_false] at hk ⊢
    · split at hk
      · rename_i b hb
        obtain ⟨b', h1, h2, h3⟩ := hle.new _ b hb
        rw [h1]
        simp only [h3]
        exact hk
      · cases hk
    · exact hk

/-- A reader reads the same in a later heap. -/
theorem opC_reads_le {ev : Operand → Value} {o : Oper} {v : Value} (hc : cls o = .reads) (hle : HpLe h h') (hw : ∀ a v, h.old a = some v → h'.new a.block = none) (hk : opC P H call ev o h (fun v h => some (v, h)) = some (v, h)) : opC P H call ev o h' (fun v h => some (v, h)) = some (v, h') := by
  have ha : actsB o = false := by simp [actsB, hc]
  have hcell : ∀ a v, h.cell a = some v → h'.cell a = some v := fun a v hv => hle.cell hw hv
  have e1 : opC P H call ev o h (fun v h => some (v, h)) = (opC P H call ev o h (fun v _ => some v)).bind fun v => some (v, h) := by rw [opC_ext ha (K' := fun v _ => some (v, h)) (fun _ => rfl), opC_bind]; rfl
  have e2 : opC P H call ev o h' (fun v h => some (v, h)) = (opC P H call ev o h' (fun v _ => some v)).bind fun v => some (v, h') := by rw [opC_ext ha (K' := fun v _ => some (v, h')) (fun _ => rfl), opC_bind]; rfl
  rw [e1] at hk
  obtain ⟨u, hu, hq⟩ := Option.bind_eq_some_iff.1 hk
  cases hq
  have key : opC P H call ev o h' (fun v _ => some v) = some v := by
    unfold opC at hu ⊢
    split at hu <;> first
      | (rename_i heq; simp [cls, heq] at hc; done)
      | skip
    · -- load
      rename_i t x heq
      unfold asPtrC at hu ⊢
      split at hu
      · dsimp only at hu ⊢
        split at hu
        · exact loadC_le hcell hu
        · cases hu
      · cases hu
    · -- convert
      unfold convC at hu ⊢
      split at hu
      · exact hu
      · exact hu
      · exact hu
      · split at hu
        · unfold asSliceC at hu ⊢
          split at hu
          · dsimp only at hu ⊢
            split at hu
            · exact hu
            · exact ldCellsC_le hcell hu
          · cases hu
        · cases hu
      · cases hu
    · -- slice
      split at hu
      · exact hu
      · unfold sizeC at hu ⊢
        split at hu
        · dsimp only at hu ⊢
          unfold asSliceC at hu ⊢
          split at hu
          · exact cutC_le hle hu
          · cases hu
        · cases hu
      · cases hu
    · -- lookup
      unfold lookC at hu ⊢
      unfold mapTypeC at hu ⊢
      split at hu
      · dsimp only at hu ⊢
        obtain ⟨hn, hu1⟩ := needC_some hu
        rw [hn]
        show zeroC P _ _ = _
        unfold zeroC at hu1 ⊢
        split at hu1 <;> try cases hu1
        split at hu1 <;> try cases hu1
        obtain ⟨hn2, hu2⟩ := needC_some hu1
        rw [hn2]
        dsimp only at hu2
        exact mapAtC_le hle hu2
      · cases hu
    · -- builtins
      rename_i b args ts heq
      cases b <;> first
        | (simp [cls, heq] at hc; done)
        | (cases hu; done)
        | skip
      dsimp only at hu ⊢
      unfold lenC at hu ⊢
      split at hu
      · split at hu
        · exact hu
        · exact hu
        · exact hu
        · unfold asMapC at hu ⊢
          split at hu
          · dsimp only at hu ⊢
            split at hu
            · exact hu
            · split at hu
              · rename_i es hes
                rw [hle.maps _ _ hes]
                exact hu
              · cases hu
          · cases hu
        · cases hu
      · cases hu
    · cases hu
  rw [e2, key]
  rfl
end
end Go.Proofs.Ytcdeeppiljcddaa.AM
