/- AM, the thirteenth part: maps. Conditions: none. -/
import Derived.Test.YtcdeeppiljcddaaAm12
namespace Go.Proofs.Ytcdeeppiljcddaa.AM
open Go Go.RowKit
set_option linter.unusedSectionVars false
set_option linter.unusedSimpArgs false
set_option linter.unusedVariables false

section
variable {B : Nat} {W : World} {ρ : Places} {h h' : Hp} {w : World} {P : Program} {R : Type} {r : R}

theorem mapTypeC_some {t : TypeId} {K : TypeId → TypeId → Option R} (h : mapTypeC P t K = some r) : ∃ k e, P.underlying t = some (.map k e) ∧ K k e = some r := by
  unfold mapTypeC at h
  split at h
  · exact ⟨_, _, by assumption, h⟩
  · cases h
theorem keyKind_cases {kt : TypeId} {x : Value} (h : keyKind P kt x = true) : (∃ k n, P.underlying kt = some (.int k) ∧ x = .int k n) ∨ ∃ s, P.underlying kt = some .string ∧ x = .string s := by
  unfold keyKind at h
  split at h
  · rename_i k k' n hu
    have : k = k' := of_decide_eq_true h
    subst this
    exact .inl ⟨_, _, hu, rfl⟩
  · rename_i s hu
    exact .inr ⟨_, hu, rfl⟩
  · cases h
theorem run_checkKey {kt : TypeId} {x : Value} (hk : keyKind P kt x = true) (b : Bool) (w : World) : (Instr.checkKey b 10000 kt x).run P w = .ok () w := by
  have gen : ∀ d, (Instr.checkKey b (d + 1) kt x).run P w = .ok () w := by
    intro d
    rcases keyKind_cases hk with ⟨k, n, hu, rfl⟩ | ⟨s, hu, rfl⟩ <;> simp [Instr.checkKey, run_underlying hu]
  exact gen 9999

theorem bytes_beq (s m : ByteArray) : (s == m) = decide (s = m) := by
  rw [Bool.eq_iff_iff, decide_eq_true_eq]
  cases s with
  | mk a =>
    cases m with
    | mk b =>
      constructor
      · intro h
        have h2 : (a == b) = true := h
        rw [eq_of_beq h2]
      · intro h
        cases h
        show (a == a) = true
        simp
theorem keyB_int {k : IntKind} {n : Int} {y : Value} {b : Bool} (h : keyB (.int k n) y = some b) : ∃ m, y = .int k m ∧ b = decide (n = m) := by
  cases y <;> simp only [keyB] at h <;> try cases h
  rename_i k2 m
  by_cases e : k = k2
  · subst e
    simp only [decide_true, cond_true, Option.some.injEq] at h
    exact ⟨m, rfl, h.symm⟩
  · simp [e] at h
theorem keyB_str {s : ByteArray} {y : Value} {b : Bool} (h : keyB (.string s) y = some b) : ∃ m, y = .string m ∧ b = decide (s = m) := by
  cases y <;> simp only [keyB] at h <;> try cases h
  exact ⟨_, rfl, rfl⟩

/-- What is found under a key, and where. -/
theorem look_found {d : TypeDesc} {kt : TypeId} {x : Value} (hd : P.underlying kt = some d) (hk : keyKind P kt x = true) : ∀ {es : List (Value × Value)} {c : List MapEntry} {q : Option Value}, ERels B ρ es c → keyLook es x = some q → ∀ i,
    (q = none → Instr.findNow d x c i = some none ∧ ∀ u, keyPut es x u = es ++ [(x, u)] ∧ keyDrop es x = es) ∧
    (∀ v, q = some v → ∃ j e, Instr.findNow d x c i = some (some (i + j, e.val)) ∧ c[j]? = some e ∧ e.key = x ∧ VRel B ρ v e.val ∧
      (∀ u u', VRel B ρ u u' → ERels B ρ (keyPut es x u) (c.modify j fun e => { e with key := x, val := u' })) ∧ ERels B ρ (keyDrop es x) (c.eraseIdx j))
  | _, _, q, .nil, hl, i => by
    simp only [keyLook, Option.some.injEq] at hl
    subst hl
    exact ⟨fun _ => ⟨rfl, fun u => ⟨rfl, rfl⟩⟩, fun v hv => by cases hv⟩
  | _, _, q, .cons (k := k) (v := v) (e := e) (xs := xs) (es := es) hke hp hv hs, hl, i => by
    have hsame : ∀ b, keyB x k = some b → Instr.sameNow d x e.key = some b := by
      intro b hb
      rcases keyKind_cases hk with ⟨kk, n, hu, rfl⟩ | ⟨s, hu, rfl⟩
      · rw [hd] at hu; cases hu
        obtain ⟨m, rfl, rfl⟩ := keyB_int hb
        rw [hke]
        simp [Instr.sameNow]
        rfl
      · rw [hd] at hu; cases hu
        obtain ⟨m, rfl, rfl⟩ := keyB_str hb
        rw [hke]
        simp only [Instr.sameNow]
        congr 1
        exact bytes_beq s m
    have heq : keyB x k = some true → k = x := by
      intro hb
      rcases keyKind_cases hk with ⟨kk, n, hu, rfl⟩ | ⟨s, hu, rfl⟩
      · obtain ⟨m, rfl, e⟩ := keyB_int hb
        rw [of_decide_eq_true e.symm]
      · obtain ⟨m, rfl, e⟩ := keyB_str hb
        rw [of_decide_eq_true e.symm]
    rw [keyLook] at hl
    cases hb : keyB x k with
    | none => rw [hb] at hl; cases hl
    | some b =>
      rw [hb] at hl
      cases b with
      | true =>
        simp only [Option.some.injEq] at hl
        subst hl
        refine ⟨fun hq => (by cases hq), fun v2 hv2 => ?_⟩
        cases hv2
        have hkx := heq hb
        refine ⟨0, e, ?_, rfl, by rw [hke, hkx], hv, ?_, ?_⟩
        · rw [Instr.findNow, hsame true hb]
          rfl
        · intro u u' hu
          simp only [keyPut, hb, List.modify_zero_cons]
          exact .cons rfl (by rw [← hkx]; exact hp) hu hs
        · simp only [keyDrop, hb, List.eraseIdx_zero, List.tail_cons]
          exact hs
      | false =>
        simp only at hl
        obtain ⟨h1, h2⟩ := look_found hd hk hs hl (i + 1)
        refine ⟨fun hq => ?_, fun v2 hv2 => ?_⟩
        · obtain ⟨a, b⟩ := h1 hq
          refine ⟨by rw [Instr.findNow, hsame false hb]; exact a, fun u => ?_⟩
          obtain ⟨b1, b2⟩ := b u
          exact ⟨by simp only [keyPut, hb, b1, List.cons_append], by simp only [keyDrop, hb, b2]⟩
        · obtain ⟨j, e2, a1, a2, a3, a4, a5, a6⟩ := h2 v2 hv2
          refine ⟨j + 1, e2, ?_, by simpa using a2, a3, a4, ?_, ?_⟩
          · rw [Instr.findNow, hsame false hb]
            rw [a1]
            simp
            omega
          · intro u u' hu
            simp only [keyPut, hb, List.modify_succ_cons]
            exact .cons hke hp hv (a5 u u' hu)
          · simp only [keyDrop, hb, List.eraseIdx_cons_succ]
            exact .cons hke hp hv a6

theorem ERels.snoc {es : List (Value × Value)} {c : List MapEntry} (h : ERels B ρ es c) {k v v' : Value} (n : Nat) (hp : plain1 k = true) (hv : VRel B ρ v v') : ERels B ρ (es ++ [(k, v)]) (c ++ [{ key := k, val := v', born := n }]) := by
  induction h with
  | nil => exact .cons rfl hp hv .nil
  | cons a b c' _ ih => exact .cons a b c' ih

theorem run_findKey {d : TypeDesc} {kt : TypeId} {x : Value} (hd : P.underlying kt = some d) {c : List MapEntry} {q : Option (Nat × Value)} (hf : Instr.findNow d x c 0 = some q) (w : World) : (Instr.findKey kt x c).run P w = .ok q w := by
  simp [Instr.findKey, run_underlying hd, hf]

theorem run_getObj_map {q : Nat} {c : Array MapEntry} {z : Nat} (hg : w.heap[q]? = some (.map c z)) : (getObj q).run P w = .ok (.map c z) w := by simp [getObj, Sem.run, hg]
theorem run_setObj_map {q : Nat} {c : Array MapEntry} {z : Nat} (hg : w.heap[q]? = some (.map c z)) (o : Obj) : (setObj q o).run P w = .ok () { w with heap := w.heap.setIfInBounds q o } := by simp [setObj, Sem.run, hg]

theorem keyKind_desc {kt : TypeId} {x : Value} (h : keyKind P kt x = true) : ∃ d, P.underlying kt = some d := by
  rcases keyKind_cases h with ⟨k, n, hu, rfl⟩ | ⟨s, hu, rfl⟩ <;> exact ⟨_, hu⟩
theorem keyKind_same {kt : TypeId} {x x' : Value} (h : keyKind P kt x = true) (hx : VRel B ρ x x') : x' = x := by
  rcases keyKind_cases h with ⟨k, n, hu, rfl⟩ | ⟨s, hu, rfl⟩ <;> (cases hx; rfl)
theorem keyKind_plain {kt : TypeId} {x : Value} (h : keyKind P kt x = true) : plain1 x = true := by
  rcases keyKind_cases h with ⟨k, n, hu, rfl⟩ | ⟨s, hu, rfl⟩ <;> rfl

theorem lookC_sound (s : Sim B W ρ h w) {t : TypeId} {x key x' key' : Value} {ok : Bool} (hx : VRel B ρ x x') (hkey : VRel B ρ key key') {K : Value → Option R} (hk : lookC P t x key ok h K = some r) :
    ∃ v v', K v = some r ∧ VRel B ρ v v' ∧ (Instr.lookup t x' key' ok).run P w = .ok v' w := by
  unfold lookC at hk
  obtain ⟨kt, e, hu, hk1⟩ := mapTypeC_some hk
  clear hk
  obtain ⟨hkk, hk⟩ := needC_some hk1
  clear hk1
  have hsame := keyKind_same hkk hkey
  subst hsame
  obtain ⟨i, z, hi, hz, hpz, hk1⟩ := zeroC_some hk
  clear hk
  obtain ⟨d, hd⟩ := keyKind_desc hkk
  unfold mapAtC at hk1
  have hX := asMapC_some hk1
  clear hk1
  obtain ⟨a, rfl, hk⟩ := hX
  -- whatever the entries are
  have fin : ∀ (es : List (Value × Value)) (c : List MapEntry), ERels B ρ es c → (lkC es key' z fun v p => like2C z v fun u => K (bif ok then .tuple #[u, .bool p] else u)) = some r → ∃ v v', K v = some r ∧ VRel B ρ v v' ∧ (do
        let (v, ok2) ← match ← Instr.findKey kt key' c with
          | some (_, v) => pure (v, true)
          | none => pure (← zeroValue e, false)
        pure (if ok then .tuple #[v, .bool ok2] else v) : Sem Value).run P w = .ok v' w := by
    intro es c hes hm
    unfold lkC at hm
    rcases hl : keyLook es key' with _ | _ | v <;> rw [hl] at hm <;> dsimp only [Option.getD_some, Option.getD_none, Option.isSome_some, Option.isSome_none] at hm
    · cases hm
    rotate_left
    · have hm := like2C_some hm
      obtain ⟨j, e2, a1, a2, a3, a4, _, _⟩ := (look_found hd hkk hes hl 0).2 v rfl
      have hf := run_findKey (P := P) hd a1 w
      refine ⟨_, if ok then .tuple #[e2.val, .bool true] else e2.val, hm, ?_, ?_⟩
      · cases ok
        · simpa using a4
        · simp only [cond_true, if_true]
          exact .tuple (.cons a4 (.cons (.bool _) .nil))
      · simp [hf]
    · have hm := like2C_some hm
      obtain ⟨a1, _⟩ := (look_found hd hkk hes hl 0).1 rfl
      have hf := run_findKey (P := P) hd a1 w
      refine ⟨_, if ok then .tuple #[z, .bool false] else z, hm, ?_, ?_⟩
      · cases ok
        · simpa using rel_plain hpz
        · simp only [cond_true, if_true]
          exact .tuple (.cons (rel_plain hpz) (.cons (.bool _) .nil))
      · simp [hf, zeroValue, typeInfo, hi, hz]
  cases hx with
  | mapNil =>
    obtain ⟨v, v', h1, h2, h3⟩ := fin [] [] .nil hk
    refine ⟨v, v', h1, h2, ?_⟩
    simp only [Instr.lookup, Sem.run_bind, run_underlying hu, Result.andThen_ok, Sem.run_pure, run_checkKey hkk]
    simp only [Sem.run_bind] at h3
    exact h3
  | mapNew hr =>
    dsimp only at hk
    split at hk
    · rename_i es hes
      obtain ⟨l, hl, c, n, g1, g2⟩ := s.maps _ es hes
      rw [hr] at hl; cases hl
      obtain ⟨v, v', h1, h2, h3⟩ := fin es c.toList g2 hk
      refine ⟨v, v', h1, h2, ?_⟩
      simp only [Instr.lookup, Sem.run_bind, run_underlying hu, Result.andThen_ok, Sem.run_pure, run_getObj_map g1, run_checkKey hkk]
      simp only [Sem.run_bind] at h3
      exact h3
    · cases hk

theorem Below.setObj' {B q : Nat} {w : World} (hq : B ≤ q) (o : Obj) : Below B w { w with heap := w.heap.setIfInBounds q o } :=
  ⟨rfl, rfl, rfl, by simp, fun k hk => by
    show (w.heap.setIfInBounds q o)[k]? = _
    rw [Array.getElem?_setIfInBounds_ne (by omega)]⟩

/-- A map is changed on both sides. -/
theorem Sim.putMap (s : Sim B W ρ h w) {q : Nat} {es es' : List (Value × Value)} {l : Loc} (hq : h.maps q = some es) (hl : ρ q = some l) {c : Array MapEntry} {z : Nat} (hg : w.heap[l.block]? = some (.map c z)) (c' : Array MapEntry) (z' : Nat) (hr : ERels B ρ es' c'.toList) :
    Sim B W ρ (h.putMap q es') { w with heap := w.heap.setIfInBounds l.block (.map c' z') } := by
  have hB := (s.dom q l hl).2.2.1
  have hlt : l.block < w.heap.size := (s.dom q l hl).2.2.2
  have hbel := Below.setObj' (w := w) hB (.map c' z')
  have hat : (w.heap.setIfInBounds l.block (.map c' z'))[l.block]? = some (.map c' z') := by simp [hlt]
  have hoth : ∀ k, k ≠ l.block → (w.heap.setIfInBounds l.block (.map c' z'))[k]? = w.heap[k]? := fun k hk => by rw [Array.getElem?_setIfInBounds_ne (Ne.symm hk)]
  have hm : ∀ q2, (h.putMap q es').maps q2 = if q2 = q then some es' else h.maps q2 := by
    intro q2
    unfold Hp.putMap
    by_cases e : q2 = q
    · subst e; simp
    · have : (q2 == q) = false := by simpa using e
      simp [e, this]
  refine ⟨s.below.trans hbel, s.low, s.base, s.first, ?_, ?_, ?_, ?_, s.apart, ?_⟩
  · intro a v hav
    obtain ⟨h1, h2, h3⟩ := s.old a v hav
    exact ⟨h1, by rw [hbel.cell h1]; exact h2, h3⟩
  · intro q2 k hq2
    obtain ⟨x, y, u, v⟩ := s.dom q2 k hq2
    exact ⟨x, y, u, by simpa using v⟩
  · intro q2 b hq2
    obtain ⟨k, hk, cc, t, k1, krest⟩ := s.new q2 b hq2
    refine ⟨k, hk, cc, t, ?_, krest⟩
    rw [hoth _ ?_]
    · exact k1
    · intro e
      rw [e, hg] at k1
      cases k1
  · intro q2 es2 hq2
    rw [hm] at hq2
    split at hq2
    · rename_i e
      subst e
      cases hq2
      exact ⟨l, hl, c', z', hat, hr⟩
    · rename_i e
      obtain ⟨k, hk, cc, zz, k1, k2⟩ := s.maps q2 es2 hq2
      refine ⟨k, hk, cc, zz, ?_, k2⟩
      rw [hoth _ (s.mapsApart q2 es2 q es k l hq2 hq e hk hl)]
      exact k1
  · intro r1 e1 r2 e2 l1 l2 h1 h2 hne
    have g1 : ∃ e, h.maps r1 = some e := by
      rw [hm] at h1
      split at h1
      · rename_i e; subst e; exact ⟨_, hq⟩
      · exact ⟨_, h1⟩
    have g2 : ∃ e, h.maps r2 = some e := by
      rw [hm] at h2
      split at h2
      · rename_i e; subst e; exact ⟨_, hq⟩
      · exact ⟨_, h2⟩
    obtain ⟨f1, g1⟩ := g1
    obtain ⟨f2, g2⟩ := g2
    exact s.mapsApart r1 f1 r2 f2 l1 l2 g1 g2 hne

theorem run_keyThatStays {kt : TypeId} {x : Value} (hk : keyKind P kt x = true) (w : World) : (Instr.keyThatStays x x).run P w = .ok x w := by
  have gen : ∀ d, Instr.sameBits d x x = true := by
    intro d
    rcases keyKind_cases hk with ⟨k, n, hu, rfl⟩ | ⟨s, hu, rfl⟩ <;> cases d <;> simp [Instr.sameBits, bytes_beq]
  simp [Instr.keyThatStays, gen 10000]

theorem mapPutC_sound (s : Sim B W ρ h w) {t : TypeId} {m key v m' key' v' : Value} (hm : VRel B ρ m m') (hkey : VRel B ρ key key') (hv : VRel B ρ v v') {K : Hp → Option R} (hk : mapPutC P t m key v h K = some r) :
    ∃ h' w', K h' = some r ∧ (Instr.mapUpdate t m' key' v').run P w = .ok () w' ∧ Sim B W ρ h' w' := by
  unfold mapPutC at hk
  obtain ⟨kt, e, hu, hk1⟩ := mapTypeC_some hk
  clear hk
  obtain ⟨hkk, hk⟩ := needC_some hk1
  clear hk1
  have hsame := keyKind_same hkk hkey
  subst hsame
  obtain ⟨d, hd⟩ := keyKind_desc hkk
  have hX := asMapC_some hk
  clear hk
  obtain ⟨a, rfl, hk⟩ := hX
  cases hm with
  | mapNil => cases hk
  | mapNew hr =>
    dsimp only at hk
    split at hk
    · rename_i es hes
      obtain ⟨l, hl, c, n, g1, g2⟩ := s.maps _ es hes
      rw [hr] at hl; cases hl
      split at hk
      · rename_i q hq
        cases q with
        | none =>
          obtain ⟨a1, a2⟩ := (look_found hd hkk g2 hq 0).1 rfl
          have hf := run_findKey (P := P) hd a1 w
          rw [(a2 v).1] at hk
          refine ⟨_, _, hk, ?_, s.putMap hes hr g1 (c.push { key := key', val := v', born := n }) (n + 1) (by rw [Array.toList_push]; exact g2.snoc n (keyKind_plain hkk) hv)⟩
          simp only [Instr.mapUpdate, Sem.run_bind, run_underlying hu, Result.andThen_ok, run_getObj_map g1, run_checkKey hkk, hf]
          rw [run_setObj_map g1]
        | some q =>
          obtain ⟨j, e2, a1, a2, a3, a4, a5, _⟩ := (look_found hd hkk g2 hq 0).2 q rfl
          have hf := run_findKey (P := P) hd a1 w
          refine ⟨_, _, hk, ?_, s.putMap hes hr g1 (c.modify j fun e => { e with key := key', val := v' }) n (by rw [Array.toList_modify]; exact a5 v v' hv)⟩
          have hcj : c[j]? = some e2 := by simpa using a2
          simp only [Instr.mapUpdate, Sem.run_bind, run_underlying hu, Result.andThen_ok, run_getObj_map g1, run_checkKey hkk, hf, Nat.zero_add, hcj, Option.map_some, Option.getD_some, a3, run_keyThatStays hkk]
          rw [run_setObj_map g1]
      · cases hk
    · cases hk

theorem mapDropC_sound (s : Sim B W ρ h w) {ts : Array TypeId} {as as' : Array Value} {ty : TypeId} (hv : VRels B ρ as.toList as'.toList) {K : Value → Hp → Option R} (hk : mapDropC P ts.toList as.toList h K = some r) :
    ∃ v h' v' w', K v h' = some r ∧ (Builtin.delete_ ts ty as').run P w = .ok v' w' ∧ Post B W ρ h' v v' w' := by
  unfold mapDropC at hk
  split at hk
  · rename_i t rest m key hts has
    have ets : ts[0]? = some t := by rw [← Array.getElem?_toList, hts]; rfl
    rw [has] at hv
    obtain ⟨m', key', eas, hm, hkey⟩ := rels_two hv
    subst eas
    obtain ⟨kt, e, hu, hk1⟩ := mapTypeC_some hk
    clear hk
    obtain ⟨hkk, hk⟩ := needC_some hk1
    clear hk1
    have hsame := keyKind_same hkk hkey
    subst hsame
    obtain ⟨d, hd⟩ := keyKind_desc hkk
    have hX := asMapC_some hk
    clear hk
    obtain ⟨a, rfl, hk⟩ := hX
    cases hm with
    | mapNil =>
      refine ⟨_, _, .tuple #[], w, hk, ?_, Post.same s (.tuple .nil)⟩
      simp only [Builtin.delete_, ets, List.getElem?_toArray, List.getElem?_cons_zero, List.getElem?_cons_succ, Sem.run_bind, run_underlying hu, Result.andThen_ok, run_checkKey hkk, Sem.run_pure]
    | mapNew hr =>
      dsimp only at hk
      split at hk
      · rename_i es hes
        obtain ⟨l, hl, c, n, g1, g2⟩ := s.maps _ es hes
        rw [hr] at hl; cases hl
        split at hk
        · rename_i q hq
          cases q with
          | none =>
            obtain ⟨a1, a2⟩ := (look_found hd hkk g2 hq 0).1 rfl
            have hf := run_findKey (P := P) hd a1 w
            rw [(a2 undef).2] at hk
            refine ⟨_, _, .tuple #[], _, hk, ?_, ρ, LeP.refl ρ, s.putMap hes hr g1 c n g2, .tuple .nil⟩
            simp only [Builtin.delete_, ets, List.getElem?_toArray, List.getElem?_cons_zero, List.getElem?_cons_succ, Sem.run_bind, run_underlying hu, Result.andThen_ok, run_getObj_map g1, run_checkKey hkk, hf]
            rw [run_setObj_map g1]
            rfl
          | some q =>
            obtain ⟨j, e2, a1, a2, a3, a4, _, a6⟩ := (look_found hd hkk g2 hq 0).2 q rfl
            have hf := run_findKey (P := P) hd a1 w
            refine ⟨_, _, .tuple #[], _, hk, ?_, ρ, LeP.refl ρ, s.putMap hes hr g1 (c.eraseIdxIfInBounds j) n (by simpa using a6), .tuple .nil⟩
            simp only [Builtin.delete_, ets, List.getElem?_toArray, List.getElem?_cons_zero, List.getElem?_cons_succ, Sem.run_bind, run_underlying hu, Result.andThen_ok, run_getObj_map g1, run_checkKey hkk, hf, Nat.zero_add]
            rw [run_setObj_map g1]
            rfl
        · cases hk
      · cases hk
  · cases hk

/-- A new map. -/
theorem Sim.newMap (s : Sim B W ρ h w) : Sim B W (addP ρ h.next ⟨w.heap.size, 0, 0, 0⟩) h.allocMap (w.alloc (.map #[] 0)) := by
  have s' := s.alloc (.map #[] 0)
  have hw : B ≤ w.heap.size := Nat.le_trans s.low s.below.size
  have hat : (w.alloc (.map #[] 0)).heap[w.heap.size]? = some (.map #[] 0) := by show (w.heap.push _)[w.heap.size]? = _; simp
  have hm : ∀ q2, h.allocMap.maps q2 = if q2 = h.next then some [] else h.maps q2 := by
    intro q2
    unfold Hp.allocMap
    by_cases e : q2 = h.next
    · subst e; simp
    · have : (q2 == h.next) = false := by simpa using e
      simp [e, this]
  refine ⟨s'.below, s'.low, s'.base, Nat.le_trans s.first (Nat.le_succ _), ?_, ?_, ?_, ?_, ?_, ?_⟩
  · intro a v hav
    obtain ⟨h1, h2, h3⟩ := s'.old a v hav
    exact ⟨h1, h2, h3.mono (addP_le s.next_none _)⟩
  · intro r k hr
    show B ≤ r ∧ r < h.next + 1 ∧ _
    unfold addP at hr
    split at hr
    · rename_i e
      subst e
      cases hr
      exact ⟨s.first, by omega, hw, by show w.heap.size < (w.heap.push _).size; simp⟩
    · obtain ⟨a, b, c, d⟩ := s'.dom r k hr
      exact ⟨a, by omega, c, d⟩
  · intro r b hr
    have e : r ≠ h.next := by have := (s.new_lt (r := r) (b := b) hr).2; omega
    obtain ⟨k, hk, hb⟩ := s'.new r b hr
    exact ⟨k, by rw [addP_other _ e]; exact hk, hb.mono (addP_le s.next_none _)⟩
  · intro r es hr
    rw [hm] at hr
    split at hr
    · rename_i e
      subst e
      cases hr
      exact ⟨_, addP_self _ _, #[], 0, hat, .nil⟩
    · rename_i e
      obtain ⟨k, hk, hb⟩ := s'.maps r es hr
      exact ⟨k, by rw [addP_other _ e]; exact hk, hb.mono (addP_le s.next_none _)⟩
  · intro r1 b1 r2 b2 l1 l2 h1 h2 hne hl1 hl2
    have e1 : r1 ≠ h.next := by have := (s.new_lt (r := r1) (b := b1) h1).2; omega
    have e2 : r2 ≠ h.next := by have := (s.new_lt (r := r2) (b := b2) h2).2; omega
    rw [addP_other _ e1] at hl1
    rw [addP_other _ e2] at hl2
    exact s.apart r1 b1 r2 b2 l1 l2 h1 h2 hne hl1 hl2
  · intro r1 e1 r2 e2 l1 l2 h1 h2 hne hl1 hl2
    rw [hm] at h1 h2
    split at h1
    · rename_i x1
      split at h2
      · rename_i x2; omega
      · rename_i x2
        subst x1
        rw [addP_self] at hl1
        rw [addP_other _ x2] at hl2
        cases hl1
        have := (s.dom r2 l2 hl2).2.2.2
        simp only
        omega
    · rename_i x1
      split at h2
      · rename_i x2
        subst x2
        rw [addP_self] at hl2
        rw [addP_other _ x1] at hl1
        cases hl2
        have := (s.dom r1 l1 hl1).2.2.2
        simp only
        omega
      · rename_i x2
        rw [addP_other _ x1] at hl1
        rw [addP_other _ x2] at hl2
        exact s.mapsApart r1 e1 r2 e2 l1 l2 h1 h2 hne hl1 hl2
end
end Go.Proofs.Ytcdeeppiljcddaa.AM
