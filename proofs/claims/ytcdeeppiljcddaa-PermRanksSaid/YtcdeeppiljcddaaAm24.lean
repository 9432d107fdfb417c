/- AM, the twenty-fourth part: new memory, stores, what is appended. Conditions: none. -/
import Derived.Test.YtcdeeppiljcddaaAm23
namespace Go.Proofs.Ytcdeeppiljcddaa.AM
open Go
section
variable {R α : Type} {h h' h0 : Hp}

theorem ok_alloc (hok : HpOk h) (cs : List Value) (sz : Nat) (par : List Nat) : HpOk (h.alloc cs sz par) :=
  ⟨fun r b hb => by
    rw [alloc_new] at hb
    show h.base ≤ r ∧ r < h.next + 1
    split at hb
    · rename_i he; have := hok.next; exact ⟨he ▸ this, by omega⟩
    · have := hok.new r b hb; exact ⟨this.1, by omega⟩,
   fun r es hm => by have := hok.maps r es hm; exact ⟨this.1, by show r < h.next + 1; omega⟩,
   hok.old, by have := hok.next; show h.base ≤ h.next + 1; omega⟩
theorem keeps_alloc (hk : Keeps h0 h) (cs : List Value) (sz : Nat) (par : List Nat) : Keeps h0 (h.alloc cs sz par) :=
  hk.trans ⟨rfl, rfl, Nat.le_succ _, fun r hr => by rw [alloc_new, if_neg (by omega)], fun _ _ => rfl, Nat.min_le_left _ _, ok_alloc hk.ok _ _ _⟩
theorem alloc_at (h : Hp) (cs : List Value) (sz : Nat) (par : List Nat) : (h.alloc cs sz par).new h.next = some ⟨cs, sz, true, par⟩ := by rw [alloc_new, if_pos rfl]
/-- A new block is the call's own. -/
theorem mine_alloc {h : Hp} {lo : Nat} (hlo : lo ≤ h.next) {cs : List Value} (h1 : oneCells cs = true) {par : List Nat} (hp : ∀ q ∈ par, lo ≤ q ∧ q < h.next) (c : Nat) : Mine (h.alloc cs 1 par) lo (some ⟨h.next, 0, none⟩) cs.length c cs :=
  .inr ⟨h.next, rfl, hlo, rfl, h1, _, alloc_at h cs 1 par, rfl, rfl, rfl, hp⟩

theorem ok_seal (hok : HpOk h) (q : Nat) : HpOk (h.fence q) :=
  ⟨fun r b hb => by
    rw [seal_new] at hb
    split at hb
    · obtain ⟨b0, h1, _⟩ := Option.map_eq_some_iff.1 hb
      exact hok.new r b0 h1
    · exact hok.new r b hb, hok.maps, hok.old, hok.next⟩
theorem keeps_seal (hk : Keeps h0 h) {q : Nat} (hq : h0.next ≤ q) : Keeps h0 (h.fence q) :=
  ⟨hk.base, hk.old, hk.next, fun r hr => by rw [seal_new, if_neg (by omega)]; exact hk.new r hr, hk.maps, hk.low, ok_seal hk.ok q⟩

theorem fold_min_ge {lo : Nat} : ∀ (l : List Nat) (r : Nat), lo ≤ r → (∀ q ∈ l, lo ≤ q) → lo ≤ l.foldl min r
  | [], r, h, _ => h
  | x :: l, r, h, hl => fold_min_ge l (min r x) (by have := hl x (by simp); omega) fun q hq => hl q (by simp [hq])
theorem ok_write (hok : HpOk h) {r : Nat} {b b0 : Blk} (hb : h.new r = some b0) (o : Nat) (vs : List Value) : HpOk (h.write r b o vs) :=
  ⟨fun q b1 h1 => by
    rw [write_new] at h1
    split at h1
    · rename_i he; exact he ▸ hok.new r b0 hb
    · split at h1
      · cases h1
      · exact hok.new q b1 h1, hok.maps, hok.old, hok.next⟩
theorem keeps_write (hk : Keeps h0 h) {r : Nat} {b : Blk} (hb : h.new r = some b) (hr : h0.next ≤ r) (hp : ∀ q ∈ b.par, h0.next ≤ q) (o : Nat) (vs : List Value) : Keeps h0 (h.write r b o vs) :=
  ⟨hk.base, hk.old, hk.next, fun q hq => by
    rw [write_new, if_neg (by omega), if_neg (fun hm => by have := hp q (by simpa using hm); omega)]
    exact hk.new q hq, hk.maps, by
    have h1 := hk.low
    have h2 := fold_min_ge b.par r hr hp
    show min h0.low h0.next ≤ min h.low (b.par.foldl min r)
    omega, ok_write hk.ok hb o vs⟩

theorem splice_set {cs : List Value} {i : Nat} {v : Value} (hi : i < cs.length) : splice cs i [v] = cs.set i v := by
  unfold splice
  rw [List.set_eq_take_append_cons_drop, if_pos hi]
  simp
theorem one_set {cs : List Value} (h1 : oneCells cs = true) {v : Value} (hv : okCell v = true) (i : Nat) : oneCells (cs.set i v) = true := by
  unfold oneCells at *
  rw [List.all_eq_true] at *
  intro x hx
  rcases List.mem_or_eq_of_mem_set hx with h | h
  · exact h1 x h
  · rw [h]; exact hv
theorem one_append {cs ds : List Value} (h1 : oneCells cs = true) (h2 : oneCells ds = true) : oneCells (cs ++ ds) = true := by
  unfold oneCells at *; rw [List.all_append, h1, h2]; rfl

theorem adr_mine (r : Nat) (i : Nat) : adr (some ⟨r, 0, none⟩) (i : Int) = ⟨r, i, none⟩ := by
  unfold adr Addr.add
  simp only [Option.getD_some, Int.toNat_natCast, Nat.mul_one]
  split
  · rename_i h; rw [h]
  · simp
/-- A store into a slice of the call's own. -/
theorem Mine.st {lo : Nat} {a : Option Addr} {n c : Nat} {cs : List Value} (hm : Mine h lo a n c cs) {i : Nat} (hi : i < cs.length) {v : Value} (hv : okCell v = true) :
    ∃ h', (∀ (R : Type) (K : Hp → Option R), h.stC (adr a (i : Int)) [v] K = K h') ∧ Mine h' lo a n c (cs.set i v) ∧ (∀ h0, Keeps h0 h → h0.next ≤ lo → Keeps h0 h') ∧
      (∀ r q b, a = some ⟨r, 0, none⟩ → h.new q = some b → r < q → h'.new q = some b) ∧ h'.next = h.next := by
  rcases hm with ⟨rfl, h1, h2, rfl⟩ | ⟨r, rfl, hm⟩
  · cases hi
  · obtain ⟨b, g1, g2, g3, g4, g5⟩ := hm.blk
    refine ⟨h.write r b i [v], fun R K => ?_, .inr ⟨r, rfl, hm.ge, by rw [List.length_set]; exact hm.len, one_set hm.one hv i, { b with cells := splice b.cells i [v], par := [] }, ?_, g2, g3, ?_, by simp⟩, fun h0 hk hlo => keeps_write hk g1 (Nat.le_trans hlo hm.ge) (fun q hq => Nat.le_trans hlo (g5 q hq).1) _ _, fun r' q b1 h0 h1 h2 => ?_, rfl⟩
    · rw [adr_mine]
      unfold Hp.stC needC
      have : i + 1 ≤ b.cells.length := by rw [g4]; exact hi
      simp [g1, g2, this, oneCells, hv]
    · rw [write_new, if_pos rfl]
    · show splice b.cells i [v] = _
      rw [g4]; exact splice_set hi
    · cases h0
      rw [write_new, if_neg (by omega), if_neg (fun hm => by have := (g5 q (by simpa using hm)).2; omega)]
      exact h1
theorem Mine.ldI {lo : Nat} {a : Option Addr} {n c : Nat} {cs : List Value} (hm : Mine h lo a n c cs) {i : Nat} {x : Int} (hi : cs[i]? = some (.int .i64 x)) (K : Int → Option R) : ldI h .i64 (adr a (i : Int)) K = K x := by
  rcases hm with ⟨rfl, h1, h2, rfl⟩ | ⟨r, rfl, hm⟩
  · cases hi
  · rw [adr_mine]
    exact ldI_of ((hm.cell i).trans hi) K
theorem Mine.at {lo : Nat} {a : Option Addr} {n c : Nat} {cs : List Value} (hm : Mine h lo a n c cs) {i : Nat} (hi : i < cs.length) (K : Addr → Option R) : atC a n 1 (i : Int) K = K (adr a i) := by
  rcases hm with ⟨rfl, h1, h2, rfl⟩ | ⟨r, rfl, hm⟩
  · cases hi
  · exact atC_adr (by simp) (by omega) (by rw [hm.len]; omega) K

/-- make. -/
theorem mk_mine {z : Value} (hz : okCell z = true) {bytes : Nat} {n : Nat} (hn : n * (bytes + 1) ≤ 70368744177664) :
    ∃ h', (∀ (R : Type) (K : Option Addr → Nat → Nat → Hp → Option R), mkC h z 1 bytes (n : Int) (n : Int) K = K (some ⟨h.next, 0, none⟩) n 0 h') ∧ Mine h' h.next (some ⟨h.next, 0, none⟩) n 0 (List.replicate n z) ∧ (∀ h0, Keeps h0 h → Keeps h0 h') := by
  have hzc : z.cells = #[z] := by
    cases z <;> first | rfl | cases hz
  have hzs : zerosOf z (n * 1) = List.replicate n z := by
    apply List.ext_getElem
    · simp [zerosOf]
    · intro i h1 h2
      simp only [zerosOf, List.getElem_map, List.getElem_range, List.getElem_replicate]
      rw [hzc]
      simp [Nat.mod_one]
  refine ⟨h.alloc (zerosOf z (n * 1)) 1 [], fun R K => ?_, ?_, fun h0 hk => keeps_alloc hk _ _ _⟩
  · unfold mkC needC
    have e1 : decide ((n : Int) * ((bytes : Int) + 1) ≤ 70368744177664) = true := decide_eq_true (by
      have := Int.ofNat_le.2 hn
      rw [Int.natCast_mul, Int.natCast_add] at this
      exact this)
    simp [e1, hzc]
  · have : n = (zerosOf z (n * 1)).length := by rw [hzs]; simp
    have := mine_alloc (Nat.le_refl h.next) (cs := zerosOf z (n * 1)) (by rw [hzs]; simp [oneCells, hz]) (par := []) (by simp) 0
    rw [hzs] at this ⊢
    simpa using this

theorem grow_mine (hok : HpOk h) {lo : Nat} (hlo : lo ≤ h.next) {a : Option Addr} {n c : Nat} {cs : List Value} (hm : Mine h lo a n c cs) {bytes m : Nat} {vs : List Value} (hv : oneCells vs = true) (hvl : vs.length = m) (hmp : 0 < m) (hb : (n + m) * (bytes + 1) ≤ 70368744177664) (hb2 : bytes ≤ 1048576) :
    ∃ h' r', (∀ (R : Type) (K : Option Addr → Nat → Nat → Hp → Option R), growT h 1 bytes a n c m vs K = K (some ⟨r', 0, none⟩) (n + m) 0 h') ∧ Mine h' lo (some ⟨r', 0, none⟩) (n + m) 0 (cs ++ vs) ∧ (∀ h0, Keeps h0 h → h0.next ≤ lo → Keeps h0 h') ∧
      (∀ q b, h.new q = some b → a ≠ some ⟨q, 0, none⟩ → h'.new q = some b) ∧ r' = h.next ∧ ∀ lo', Later lo' h h' := by
  have hm0 : decide (m = 0) = false := decide_eq_false (by omega)
  rcases hm with ⟨rfl, rfl, rfl, rfl⟩ | ⟨r, rfl, hm⟩
  · refine ⟨h.alloc vs 1 [], h.next, fun R K => ?_, ?_, fun h0 hk _ => keeps_alloc hk _ _ _, fun q b h1 _ => ?_, rfl, ?_⟩
    · unfold growT needC
      rw [Nat.zero_add] at hb
      have e1 : decide (m * (bytes + 1) ≤ 70368744177664) = true := decide_eq_true hb
      simp only [hm0, cond_false, Nat.zero_add, e1, hv, hvl, Nat.mul_one, decide_true, Bool.and_self, cond_true, decide_eq_true hb2]
    · have := mine_alloc hlo hv (par := []) (by simp) 0
      simpa [hvl] using this
    · rw [alloc_new, if_neg (by have := hok.new q b h1; omega)]; exact h1
    · intro lo' q b _ h1
      exact ⟨b, by rw [alloc_new, if_neg (by have := hok.new q b h1; omega)]; exact h1, rfl, rfl⟩
  · obtain ⟨b, g1, g2, g3, g4, g5⟩ := hm.blk
    refine ⟨(h.fence r).alloc (b.cells ++ vs) 1 (r :: b.par), h.next, fun R K => ?_, ?_, fun h0 hk hlo => keeps_alloc (keeps_seal hk (Nat.le_trans hlo hm.ge)) _ _ _, fun q b1 h1 h2 => ?_, rfl, ?_⟩
    · unfold growT needC
      have e1 : decide ((n + m) * (bytes + 1) ≤ 70368744177664) = true := decide_eq_true hb
      have e3 : n = b.cells.length := by rw [g4]; exact hm.len
      have e4 : oneCells b.cells = true := by rw [g4]; exact hm.one
      simp only [hm0, cond_false, e1, hv, hvl, Nat.mul_one, decide_true, Bool.and_self, cond_true, decide_eq_true hb2, g1, g2, g3, Option.isNone_none, Nat.zero_add, e4, ← e3, List.drop_zero]
    · have h1 : oneCells (b.cells ++ vs) = true := one_append (by rw [g4]; exact hm.one) hv
      have h2 := mine_alloc (h := h.fence r) hlo h1 (par := r :: b.par) (fun q hq => by
        rcases List.mem_cons.1 hq with rfl | hq
        · exact ⟨hm.ge, (hok.new _ _ g1).2⟩
        · have := g5 q hq
          exact ⟨this.1, Nat.lt_trans this.2 (hok.new _ _ g1).2⟩) 0
      have hl : (b.cells ++ vs).length = n + m := by rw [List.length_append, hvl, g4, ← hm.len]
      rw [hl, g4] at h2
      rw [g4]
      exact h2
    · rw [alloc_new, if_neg (by have := hok.new q b1 h1; show ¬ q = h.next; omega), seal_new, if_neg (fun he => h2 (by rw [he]))]
      exact h1
    · intro lo' q b1 _ h1
      by_cases he : q = r
      · subst he
        have hb1 : b1 = b := Option.some.inj (h1.symm.trans g1)
        exact ⟨{ b1 with rw := false }, by rw [alloc_new, if_neg (by have := hok.new q b1 h1; show ¬ q = h.next; omega), seal_new, if_pos rfl, h1]; rfl, rfl, rfl⟩
      · exact ⟨b1, by rw [alloc_new, if_neg (by have := hok.new q b1 h1; show ¬ q = h.next; omega), seal_new, if_neg he]; exact h1, rfl, rfl⟩
/-- append of one element. -/
theorem append1 (hok : HpOk h) {lo : Nat} (hlo : lo ≤ h.next) {a : Option Addr} {n c : Nat} {cs : List Value} (hm : Mine h lo a n c cs) {bytes : Nat} {v : Value} (hv : okCell v = true) (hb : (n + 1) * (bytes + 1) ≤ 70368744177664) (hb2 : bytes ≤ 1048576) :
    ∃ h' r', (∀ (R : Type) (K : Option Addr → Nat → Nat → Hp → Option R), (lt (h.alloc [v] 1 []) fun h1 => srcC h1 1 1 (.slice (some ⟨h.next, 0, none⟩) 1 0) fun vs => growT h1 1 bytes a n c 1 vs K) = K (some ⟨r', 0, none⟩) (n + 1) 0 h') ∧ Mine h' lo (some ⟨r', 0, none⟩) (n + 1) 0 (cs ++ [v]) ∧ (∀ h0, Keeps h0 h → h0.next ≤ lo → Keeps h0 h') ∧
      (∀ q b, h.new q = some b → a ≠ some ⟨q, 0, none⟩ → h'.new q = some b) ∧ h.next < r' ∧ ∀ lo', Later lo' h h' := by
  have hok1 := ok_alloc hok [v] 1 []
  have hk1 : Keeps h (h.alloc [v] 1 []) := keeps_alloc (Keeps.refl hok) _ _ _
  obtain ⟨h', r', e1, e2, e3, e4, e5, e6⟩ := grow_mine hok1 (lo := lo) (by show lo ≤ h.next + 1; omega) (hm.keeps hok hk1) (vs := [v]) (m := 1) (bytes := bytes) (by simpa [oneCells] using hv) rfl (by omega) hb hb2
  refine ⟨h', r', fun R K => ?_, e2, fun h0 hk hlo => e3 h0 (keeps_alloc hk _ _ _) hlo, fun q b h1 h2 => e4 q b (by rw [alloc_new, if_neg (by have := hok.new q b h1; omega)]; exact h1) h2, by rw [e5]; exact Nat.lt_succ_self _, fun lo' => Later.trans (fun q b _ h1 => ⟨b, by rw [alloc_new, if_neg (by have := hok.new q b h1; omega)]; exact h1, rfl, rfl⟩) (e6 lo')⟩
  unfold lt srcC
  have hc : (h.alloc [v] 1 []).rawCells ⟨h.next, 0, none⟩ 0 (1 * 1) = some [v] := by
    have : (h.alloc [v] 1 []).cell ⟨h.next, 0, none⟩ = some v := by
      unfold Hp.cell; rw [alloc_at]; rfl
    simp [Hp.rawCells, Addr.add, this]
  simp only [hc]
  exact e1 R K
end
end Go.Proofs.Ytcdeeppiljcddaa.AM
