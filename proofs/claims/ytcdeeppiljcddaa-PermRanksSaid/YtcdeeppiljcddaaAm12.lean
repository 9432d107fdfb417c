/- AM, the twelfth part: copy, len, min, max, conversions, maps. Conditions: none. -/
import Derived.Test.YtcdeeppiljcddaaAm11
namespace Go.Proofs.Ytcdeeppiljcddaa.AM
open Go Go.RowKit
set_option linter.unusedSectionVars false
set_option linter.unusedSimpArgs false
set_option linter.unusedVariables false

section
variable {B : Nat} {W : World} {ρ : Places} {h h' : Hp} {w : World} {P : Program} {R : Type} {r : R}

theorem fold_par_le (l : List Nat) : ∀ (r : Nat), l.foldl min r ≤ r := by
  induction l with
  | nil => intro r; exact Nat.le_refl _
  | cons x l ih => intro r; exact Nat.le_trans (ih _) (Nat.min_le_left _ _)

/-- A store of cells at an address. -/
theorem stC_sound (s : Sim B W ρ h w) {a : Addr} {p' : Value} (hp : VRel B ρ (.pointer (some a)) p') {vs vs' : List Value} (hv : VRels B ρ vs vs') {K : Hp → Option R} (hk : h.stC a vs K = some r) :
    ∃ h' a' w', K h' = some r ∧ p' = .pointer (some a') ∧ (storeCells a' vs' 0).run P w = .ok () w' ∧ Sim B W ρ h' w' := by
  unfold Hp.stC at hk
  split at hk
  · rename_i b hb
    obtain ⟨hn, hk⟩ := needC_some hk
    simp only [Bool.and_eq_true, decide_eq_true_eq] at hn
    obtain ⟨⟨⟨g1, g2⟩, g3⟩, g4⟩ := hn
    obtain ⟨q, o, sp⟩ := a
    have hsp : sp = none := by cases sp <;> simp at g2 ⊢
    subst hsp
    obtain ⟨l, hl, c, t, q1, q2, q3, q4, q5⟩ := s.new q b hb
    cases hp with
    | ptrOld hlt => have := (s.dom q l hl).1; simp at hlt; omega
    | ptrNew hr =>
      rw [hl] at hr; cases hr
      simp only at g3
      have hlen := hv.length
      have hrun := run_storeCells_cells (P := P) l.block (l.base + o) vs' 0 w
        (fun j hj => by
          rw [cell_of_heap q1]
          have : l.base + o + j < c.size := by omega
          simp [this])
        (fun j hj => by simp [World.frozen?, q1]) (oneCells_one g4 hv)
      exact ⟨_, _, _, hk, rfl, hrun, by simpa using s.write hb hl g1 c t q1 o vs vs' g3 hv⟩
  · cases hk

theorem run_bytes (b : ByteArray) (n : Nat) : (Builtin.firstCells 1 n (.string b)).run P w = .ok ((b.data.toList.take n).map fun x => Value.int .u8 x.toNat).toArray w := by
  simp only [Builtin.firstCells, Sem.run_pure]
  congr 1
  apply Array.ext'
  simp [ByteArray.data_extract, List.map_take]

theorem putC_sound (s : Sim B W ρ h w) {a : Option Addr} {n c m : Nat} {d' x' : Value} {t tx ty e : TypeId} {i : TypeInfo} (ht : P.underlying t = some (.slice e)) (hi : P.info? e = some i) (hd : VRel B ρ (.slice a n c) d')
    (hlenx : (Builtin.lenOf x').run P w = .ok m w) {vs vs' : List Value} (hvr : VRels B ρ vs vs') (hrun : vs.length = Nat.min m n * i.size ∨ Nat.min m n = 0 → ∃ us, (Builtin.firstCells i.size (Nat.min m n) x').run P w = .ok us.toArray w ∧ (Nat.min m n = 0 → us = []) ∧ (Nat.min m n ≠ 0 → us = vs'))
    {K : Value → Hp → Option R} (hk : putC h i.size a (Nat.min m n) vs K = some r) :
    ∃ v h' v' w', K v h' = some r ∧ (Builtin.copy_ #[t, tx] ty #[d', x']).run P w = .ok v' w' ∧ Post B W ρ h' v v' w' := by
  obtain ⟨a', c', rfl, hn⟩ := rel_slice hd
  unfold putC putT at hk
  by_cases h0 : Nat.min m n = 0
  · simp only [h0, decide_true, cond_true] at hk
    obtain ⟨us, hr, hz, _⟩ := hrun (.inr h0)
    have hus := hz h0
    subst hus
    refine ⟨_, _, .int .i64 0, w, hk, ?_, Post.same s (.int _ _)⟩
    rw [h0] at hr
    cases a' <;> simp [Builtin.copy_, run_underlying ht, hlenx, h0, sizeOf, typeInfo, hi, hr, storeCells, goInt]
  · simp only [h0, decide_false, cond_false] at hk
    split at hk
    · rename_i ad
      obtain ⟨hb, hk1⟩ := needC_some hk
      clear hk
      have hl := of_decide_eq_true hb
      obtain ⟨us, hr, _, hu⟩ := hrun (.inl hl)
      have hus := hu h0
      subst hus
      have hpos : 0 < n := by
        have : Nat.min m n ≤ n := Nat.min_le_right _ _
        omega
      obtain ⟨ad', c2, e2, ha⟩ := rel_slice_addr hd hpos
      cases e2
      obtain ⟨h', ad2, w', h1, h2, h3, h4⟩ := stC_sound (P := P) s ha.ptr hvr hk1
      cases h2
      refine ⟨_, _, .int .i64 (Nat.min m n : Nat), w', h1, ?_, ρ, LeP.refl ρ, h4, .int _ _⟩
      simp [Builtin.copy_, run_underlying ht, hlenx, sizeOf, typeInfo, hi, hr, h3, goInt]
    · cases hk

theorem rels_two {x y : Value} {as' : Array Value} (hv : VRels B ρ [x, y] as'.toList) : ∃ x' y', as' = #[x', y'] ∧ VRel B ρ x x' ∧ VRel B ρ y y' := by
  generalize hl : as'.toList = l at hv
  cases hv with
  | cons a hs =>
    cases hs with
    | cons b hs2 =>
      cases hs2
      exact ⟨_, _, by apply Array.ext'; exact hl, a, b⟩
theorem rels_one {x : Value} {as' : Array Value} (hv : VRels B ρ [x] as'.toList) : ∃ x', as' = #[x'] ∧ VRel B ρ x x' := by
  generalize hl : as'.toList = l at hv
  cases hv with
  | cons a hs =>
    cases hs
    exact ⟨_, by apply Array.ext'; exact hl, a⟩

theorem copyC_sound (s : Sim B W ρ h w) {ts : Array TypeId} {as as' : Array Value} {ty : TypeId} (hv : VRels B ρ as.toList as'.toList) {K : Value → Hp → Option R} (hk : copyC P ts.toList as.toList h K = some r) :
    ∃ v h' v' w', K v h' = some r ∧ (Builtin.copy_ ts ty as').run P w = .ok v' w' ∧ Post B W ρ h' v v' w' := by
  unfold copyC at hk
  split at hk
  · rename_i t tx dst x hts has
    have ets : ts = #[t, tx] := by apply Array.ext'; exact hts
    rw [has] at hv
    obtain ⟨d', x', eas, hd, hx⟩ := rels_two hv
    subst ets; subst eas
    obtain ⟨e, ht, hkA⟩ := elemC_some hk
    clear hk
    obtain ⟨i, hi, hkB⟩ := sizeC_some hkA
    clear hkA
    obtain ⟨a, n, c, rfl, hk1⟩ := asSliceC_some hkB
    clear hkB
    split at hk1
    · obtain ⟨b, m, d, rfl, hk⟩ := asSliceC_some hk1
      clear hk1
      obtain ⟨vs, vs', b', d2, h1, h2, rfl, h3, h4⟩ := srcC_slice s hx (Nat.min_le_left m n) hk
      refine putC_sound s ht hi hd rfl h2 (fun hlen => ⟨vs', ?_, fun h0 => ?_, fun _ => rfl⟩) h1
      · cases b with
        | none =>
          obtain ⟨rfl, rfl⟩ := h3 rfl
          cases h2
          exact run_firstCells_none w _ _ _ _
        | some ad =>
          obtain ⟨hl, ad', rfl, hc⟩ := h4 ad rfl
          exact run_firstCells_some w _ _ ad' _ _ vs' (by rw [← h2.length, hl]) hc
      · have := h2.length
        cases b with
        | none =>
          obtain ⟨_, rfl⟩ := h3 rfl
          cases h2
          rfl
        | some ad =>
          obtain ⟨hl, _⟩ := h4 ad rfl
          have hl2 : vs.length = Nat.min m n * i.size := hl
          rw [h0, Nat.zero_mul] at hl2
          cases vs' with
          | nil => rfl
          | cons x l => simp [hl2] at this
    · obtain ⟨b, rfl, hk⟩ := asStrC_some hk1
      clear hk1
      cases hx
      unfold srcC at hk
      obtain ⟨hs1, hk1⟩ := needC_some hk
      have hs1' : i.size = 1 := of_decide_eq_true hs1
      refine putC_sound s ht hi hd rfl (VRels.map (f := fun x : UInt8 => Value.int .u8 x.toNat) (g := fun x : UInt8 => Value.int .u8 x.toNat) _ fun x _ => .int _ _) (fun _ => ⟨_, ?_, fun h0 => ?_, fun _ => rfl⟩) hk1
      · rw [hs1']
        exact run_bytes b _
      · rw [h0]; rfl
    · cases hk1
  · cases hk

theorem run_len_map {ts : Array TypeId} {t k e ty : TypeId} (hu : P.underlying t = some (.map k e)) {q : Nat} {c : Array MapEntry} {z : Nat} (hg : w.heap[q]? = some (.map c z)) :
    (Builtin.len_ #[t] ty #[.map (some q)]).run P w = .ok (.int .i64 c.size) w := by
  simp only [Builtin.len_, List.getElem?_toArray, List.getElem?_cons_zero, Sem.run_bind, run_underlying hu, Result.andThen_ok]
  simp [getObj, Sem.run, hg, goInt]

theorem ERels.length {xs : List (Value × Value)} {es : List MapEntry} (h : ERels B ρ xs es) : xs.length = es.length := by
  induction h with
  | nil => rfl
  | cons _ _ _ _ ih => simp [ih]

theorem lenC_sound (s : Sim B W ρ h w) {ts : Array TypeId} {as as' : Array Value} {ty : TypeId} (hv : VRels B ρ as.toList as'.toList) {K : Value → Option R} (hk : lenC P ts.toList as.toList h K = some r) :
    ∃ v, K v = some r ∧ VRel B ρ v v ∧ (Builtin.len_ ts ty as').run P w = .ok v w := by
  unfold lenC at hk
  split at hk
  · rename_i t x hts has
    have ets : ts = #[t] := by apply Array.ext'; exact hts
    rw [has] at hv
    obtain ⟨x', eas, hx⟩ := rels_one hv
    subst ets; subst eas
    split at hk
    · rename_i hu
      have hX := asStrC_some hk
      clear hk
      obtain ⟨b, rfl, hk⟩ := hX
      cases hx
      exact ⟨_, hk, .int _ _, by simp [Builtin.len_, run_underlying hu, goInt]⟩
    · rename_i e hu
      have hX := asSliceC_some hk
      clear hk
      obtain ⟨a, n, c, rfl, hk⟩ := hX
      obtain ⟨a', c', rfl, _⟩ := rel_slice hx
      exact ⟨_, hk, .int _ _, by simp [Builtin.len_, run_underlying hu, goInt]⟩
    · rename_i n e hu
      exact ⟨_, hk, .int _ _, by simp [Builtin.len_, run_underlying hu, goInt]⟩
    · rename_i k e hu
      have hX := asMapC_some hk
      clear hk
      obtain ⟨a, rfl, hk⟩ := hX
      cases hx with
      | mapNil => exact ⟨_, hk, .int _ _, by simp [Builtin.len_, run_underlying hu, goInt]⟩
      | mapNew hr =>
        dsimp only at hk
        split at hk
        · rename_i es hes
          obtain ⟨l, hl, c, z, h1, h2⟩ := s.maps _ es hes
          rw [hr] at hl; cases hl
          refine ⟨_, hk, .int _ _, ?_⟩
          rw [run_len_map (ts := #[]) hu h1, h2.length]
          simp
        · cases hk
    · cases hk
  · cases hk

theorem mostFrom_sound (big : Bool) (k : IntKind) (f : Value → Value → Sem Value) (hf : ∀ a b w, (f (.int k a) (.int k b)).run P w = .ok (.int k (bif big then max a b else min a b)) w) : ∀ {l l' : List Value} {a : Int} {K : Value → Option R}, VRels B ρ l l' → mostFrom big k a l K = some r →
    ∃ v, K v = some r ∧ VRel B ρ v v ∧ (l'.foldlM f (.int k a)).run P w = .ok v w
  | _, _, a, K, .nil, hk => ⟨_, hk, .int _ _, rfl⟩
  | _, _, a, K, .cons hx hs, hk => by
    rw [mostFrom] at hk
    have hX := asIntC_some hk
    clear hk
    obtain ⟨b, e, hk1⟩ := hX
    subst e
    cases hx
    obtain ⟨v, h1, h2, h3⟩ := mostFrom_sound big k f hf hs hk1
    refine ⟨v, h1, h2, ?_⟩
    rw [List.foldlM_cons, Sem.run_bind, hf]
    exact h3
theorem mostC_sound (big : Bool) {as as' : Array Value} {ts : Array TypeId} {ty : TypeId} (hv : VRels B ρ as.toList as'.toList) {K : Value → Option R} (hk : mostC big as.toList K = some r) :
    ∃ v, K v = some r ∧ VRel B ρ v v ∧ (bif big then Builtin.max_ ts ty as' else Builtin.min_ ts ty as').run P w = .ok v w := by
  unfold mostC at hk
  generalize hl' : as'.toList = l' at hv
  generalize as.toList = l at hk hv
  cases hv with
  | nil => cases hk
  | cons hx hs =>
    dsimp only at hk
    split at hk
    · rename_i k a
      cases hx
      cases big with
      | true =>
        obtain ⟨v, h1, h2, h3⟩ := mostFrom_sound (P := P) (w := w) true k Builtin.max2 (fun a b w => by simp only [Builtin.max2, Sem.run_pure, cond_true]; congr 2; omega) hs hk
        exact ⟨v, h1, h2, by simp only [cond_true, Builtin.max_, hl']; exact h3⟩
      | false =>
        obtain ⟨v, h1, h2, h3⟩ := mostFrom_sound (P := P) (w := w) false k Builtin.min2 (fun a b w => by simp only [Builtin.min2, Sem.run_pure, cond_false]; congr 2; omega) hs hk
        exact ⟨v, h1, h2, by simp only [cond_false, Builtin.min_, hl']; exact h3⟩
    · cases hk

theorem ldCellsC_int {k : IntKind} {a : Addr} : ∀ {n i : Nat} {K : List Value → Option R}, h.ldCellsC a (List.replicate n (.int k 0)) i K = some r →
    ∃ bs : List Int, bs.length = n ∧ (∀ (j : Nat) (b : Int), bs[j]? = some b → h.cell (a.add (i + j)) = some (.int k b)) ∧ K (bs.map (Value.int k)) = some r
  | 0, i, K, hk => ⟨[], rfl, fun j b hb => by simp at hb, hk⟩
  | n + 1, i, K, hk => by
    rw [List.replicate_succ, Hp.ldCellsC] at hk
    unfold Hp.ldC at hk
    split at hk
    · rename_i v hv
      have hX := asIntC_some hk
      clear hk
      obtain ⟨b, rfl, hk⟩ := hX
      obtain ⟨bs, h1, h2, h3⟩ := ldCellsC_int hk
      refine ⟨b :: bs, by simp [h1], ?_, h3⟩
      intro j c hc
      cases j with
      | zero => simp at hc; subst hc; exact hv
      | succ j => have := h2 j c (by simpa using hc); rwa [show i + 1 + j = i + (j + 1) by omega] at this
    · cases hk

theorem convC_sound (s : Sim B W ρ h w) {src dst : TypeId} {x x' : Value} (hx : VRel B ρ x x') {K : Value → Option R} (hk : convC P src dst x h K = some r) :
    ∃ v, K v = some r ∧ VRel B ρ v v ∧ (convert src dst x').run P w = .ok v w := by
  unfold convC at hk
  split at hk
  · rename_i k1 k2 h1 h2
    split at hk
    · cases hx
      exact ⟨_, hk, .int _ _, by simp [convert, run_underlying h1, run_underlying h2, Conv.intToInt]⟩
    · cases hk
  · rename_i k1 h1 h2
    split at hk
    · rename_i k n
      cases hx
      obtain ⟨hb, hk⟩ := needC_some hk
      simp only [Bool.and_eq_true, decide_eq_true_eq] at hb
      refine ⟨_, hk, .string _, ?_⟩
      have hval : Utf8.valid n = true := by
        unfold Utf8.valid
        have : decide (0 ≤ n) = true := decide_eq_true hb.1
        have h2 : decide (n < 0xD800) = true := decide_eq_true (by omega)
        simp [this, h2]
      have he : Utf8.encode n = ⟨#[n.toNat.toUInt8]⟩ := by
        unfold Utf8.encode
        have : n.toNat < 0x80 := by omega
        simp only [hval, if_true, this]
      simp [convert, run_underlying h1, run_underlying h2, Conv.intToString, he]
    · cases hk
  · rename_i h1 h2
    have hX := asStrC_some hk
    clear hk
    obtain ⟨b, rfl, hk⟩ := hX
    cases hx
    exact ⟨_, hk, .string _, by simp [convert, run_underlying h1, run_underlying h2]⟩
  · rename_i e h1 h2
    split at hk
    · rename_i h3
      have hX := asSliceC_some hk
      clear hk
      obtain ⟨a, n, c, rfl, hk⟩ := hX
      have gen : ∀ (cs : List Int) (acc : ByteArray),
          (forIn (m := Sem) (cs.map (Value.int .u8)) acc fun c s => match c with
            | .int .u8 n => pure (ForInStep.yield (s.push (UInt8.ofNat n.toNat)))
            | _ => do
              stuck "bytesToString: byte expected"
              pure (ForInStep.yield s)).run P w = .ok ⟨acc.data ++ (cs.map fun b => UInt8.ofNat b.toNat).toArray⟩ w := by
        intro cs
        induction cs with
        | nil => intro acc; simp
        | cons x cs ih =>
          intro acc
          rw [List.map_cons, List.forIn_cons]
          simp only [Sem.run_bind, Sem.run_pure, Result.andThen_ok]
          rw [ih]
          congr 2
          simp [ByteArray.push]
      split at hk
      · cases hx
        exact ⟨_, hk, .string _, by simp [convert, run_underlying h1, run_underlying h2, run_underlying h3, Conv.bytesToString]⟩
      · rename_i ad
        have hX := ldCellsC_int hk
        clear hk
        obtain ⟨bs, hl, hvs, hk⟩ := hX
        refine ⟨_, hk, .string _, ?_⟩
        have rd : ∀ (ad' : Addr) (c' : Nat), (∀ (j : Nat) (v : Value), (bs.map (Value.int .u8))[j]? = some v → w.cell? (ad'.add j) = some v) → (convert src dst (.slice (some ad') n c')).run P w = .ok (.string ⟨(bs.map fun b => UInt8.ofNat b.toNat).toArray⟩) w := by
          intro ad' c' hc
          have hr := run_loadCells_list (P := P) w ad' _ hc
          rw [List.length_map, hl] at hr
          have hg := gen bs ByteArray.empty
          simp only [convert, Sem.run_bind, run_underlying h1, run_underlying h2, Result.andThen_ok]
          simp only [run_underlying h3, Conv.bytesToString, Sem.run_bind, hr, Result.andThen_ok]
          rw [← Array.forIn_toList]
          simp only [List.toList_toArray]
          exact (congrArg (fun q => Result.andThen q (fun a w' => Sem.run P (pure (Value.string a)) w')) hg).trans (by simp)
        have hcs : (bs.map (Value.int .u8)).map byteV = bs.map fun b => UInt8.ofNat b.toNat := by
          rw [List.map_map]; rfl
        rw [hcs]
        by_cases h0 : n = 0
        · have : bs = [] := by cases bs with
            | nil => rfl
            | cons x l => simp at hl; omega
          subst this
          obtain ⟨a', c', rfl, hn⟩ := rel_slice hx
          obtain ⟨ad', rfl⟩ : ∃ z, a' = some z := by cases a' <;> simp at hn ⊢
          exact rd ad' c' (fun j v hv => by simp at hv)
        · obtain ⟨ad', c', rfl, ha⟩ := rel_slice_addr hx (by omega)
          refine rd ad' c' (fun j v hv => ?_)
          rw [List.getElem?_map, Option.map_eq_some_iff] at hv
          obtain ⟨b, hb, rfl⟩ := hv
          obtain ⟨v', e1, e2⟩ := s.cell (ha.add (0 + j)) (hvs j b hb)
          cases e2
          simpa using e1
    · cases hk
  · cases hk
end
end Go.Proofs.Ytcdeeppiljcddaa.AM
