/- AM, the twenty-fifth part: parts of slices of the call's own, variables of several cells. Conditions: none. -/
import Derived.Test.YtcdeeppiljcddaaAm24
namespace Go.Proofs.Ytcdeeppiljcddaa.AM
open Go
section
variable {R α : Type} {h h' h0 : Hp}

theorem one_splice {cs vs : List Value} (h1 : oneCells cs = true) (h2 : oneCells vs = true) (o : Nat) : oneCells (splice cs o vs) = true := by
  unfold splice oneCells at *
  rw [List.all_append, List.all_append, h2, Bool.and_true, Bool.and_eq_true, List.all_eq_true, List.all_eq_true]
  rw [List.all_eq_true] at h1
  exact ⟨fun x hx => h1 x (List.mem_of_mem_take hx), fun x hx => h1 x (List.mem_of_mem_drop hx)⟩
theorem splice_length {cs vs : List Value} {o : Nat} (hl : o + vs.length ≤ cs.length) : (splice cs o vs).length = cs.length := by
  unfold splice
  simp only [List.length_append, List.length_take, List.length_drop]
  omega
/-- Several cells, stored into a slice of the call's own. -/
theorem Mine.sts {lo r : Nat} {n c : Nat} {cs : List Value} (hm : Mine h lo (some ⟨r, 0, none⟩) n c cs) {o : Nat} {vs : List Value} (hl : o + vs.length ≤ cs.length) (hv : oneCells vs = true) :
    ∃ h', (∀ (R : Type) (K : Hp → Option R), h.stC ⟨r, o, none⟩ vs K = K h') ∧ Mine h' lo (some ⟨r, 0, none⟩) n c (splice cs o vs) ∧ (∀ h0, Keeps h0 h → h0.next ≤ lo → Keeps h0 h') ∧
      (∀ q b, h.new q = some b → r < q → h'.new q = some b) ∧ h'.next = h.next := by
  rcases hm with ⟨h1, _⟩ | ⟨r', h1, hm⟩
  · cases h1
  · cases h1
    obtain ⟨b, g1, g2, g3, g4, g5⟩ := hm.blk
    refine ⟨h.write r b o vs, fun R K => ?_, .inr ⟨r, rfl, hm.ge, by rw [splice_length hl]; exact hm.len, one_splice hm.one hv o, { b with cells := splice b.cells o vs, par := [] }, by rw [write_new, if_pos rfl], g2, g3, by rw [g4], by simp⟩, fun h0 hk hlo => keeps_write hk g1 (Nat.le_trans hlo hm.ge) (fun q hq => Nat.le_trans hlo (g5 q hq).1) _ _, fun q b1 h1 h2 => ?_, rfl⟩
    · unfold Hp.stC needC
      have : o + vs.length ≤ b.cells.length := by rw [g4]; exact hl
      simp [g1, g2, this, hv]
    · rw [write_new, if_neg (by omega), if_neg (fun hm => by have := (g5 q (by simpa using hm)).2; omega)]
      exact h1
theorem raw_drop {r : Nat} {b : Blk} (hb : h.new r = some b) : ∀ (d o k : Nat), o + k + d ≤ b.cells.length → h.rawCells ⟨r, o, none⟩ k d = some ((b.cells.drop (o + k)).take d)
  | 0, o, k, _ => by simp [Hp.rawCells]
  | d + 1, o, k, hl => by
    have h1 : h.cell ((Addr.mk r o none).add k) = some (b.cells[o + k]'(by omega)) := by
      have : (Addr.mk r o none).add k = ⟨r, o + k, none⟩ := by
        unfold Addr.add; split
        · subst k; rfl
        · rfl
      rw [this]
      unfold Hp.cell
      simp [hb]
    rw [Hp.rawCells, h1]
    simp only
    rw [raw_drop hb d o (k + 1) (by omega), Option.map_some]
    rw [List.drop_eq_getElem_cons (by omega : o + k < b.cells.length), List.take_succ_cons]
    rfl
/-- A part of a slice of the call's own. -/
theorem Mine.cut {lo r : Nat} {n c : Nat} {cs : List Value} (hok : HpOk h) (hm : Mine h lo (some ⟨r, 0, none⟩) n c cs) {x y : Nat} (h1 : x ≤ y) (h2 : y ≤ n) (K : Option Addr → Nat → Nat → Option R) :
    cutT h (some ⟨r, 0, none⟩) n c 1 (some (x : Int)) (some (y : Int)) K = K (some ⟨r, x, none⟩) (y - x) 0 := by
  rcases hm with ⟨h1, _⟩ | ⟨r', h0, hm⟩
  · cases h1
  · cases h0
    obtain ⟨b, g1, g2, g3, g4, g5⟩ := hm.blk
    have hb := (hok.new _ _ g1).1
    unfold cutT needC
    have e1 : decide (r < h.base) = false := decide_eq_false (by omega)
    have e2 : (Addr.mk r 0 none).add x = ⟨r, x, none⟩ := by
      unfold Addr.add; split
      · congr 1; omega
      · simp
    simp [e1, g1, g3, h1, h2, e2]
/-- The same, to the end. -/
theorem Mine.cutEnd {lo r : Nat} {n c : Nat} {cs : List Value} (hok : HpOk h) (hm : Mine h lo (some ⟨r, 0, none⟩) n c cs) {x : Nat} (h1 : x ≤ n) (K : Option Addr → Nat → Nat → Option R) :
    cutT h (some ⟨r, 0, none⟩) n c 1 (some (x : Int)) none K = K (some ⟨r, x, none⟩) (n - x) 0 := by
  rcases hm with ⟨h1, _⟩ | ⟨r', h0, hm⟩
  · cases h1
  · cases h0
    obtain ⟨b, g1, g2, g3, g4, g5⟩ := hm.blk
    have hb := (hok.new _ _ g1).1
    unfold cutT needC
    have e1 : decide (r < h.base) = false := decide_eq_false (by omega)
    have e2 : (Addr.mk r 0 none).add x = ⟨r, x, none⟩ := by
      unfold Addr.add; split
      · congr 1; omega
      · simp
    simp [e1, g1, g3, h1, e2]
theorem Mine.srcCut {lo r : Nat} {n c : Nat} {cs : List Value} (hm : Mine h lo (some ⟨r, 0, none⟩) n c cs) {x d m e : Nat} (h1 : x + d ≤ cs.length) (K : List Value → Option R) :
    srcC h 1 d (.slice (some ⟨r, x, none⟩) m e) K = K ((cs.drop x).take d) := by
  rcases hm with ⟨h1, _⟩ | ⟨r', h0, hm⟩
  · cases h1
  · cases h0
    obtain ⟨b, g1, g2, g3, g4, g5⟩ := hm.blk
    unfold srcC
    simp only
    rw [raw_drop g1 (d * 1) x 0 (by rw [g4]; omega), g4, Nat.add_zero, Nat.mul_one]

/-! ### Variables of several cells -/
structure Var (h : Hp) (r : Nat) (cs : List Value) : Prop where
  one : oneCells cs = true
  blk : ∃ b, h.new r = some b ∧ b.rw = true ∧ b.cells = cs ∧ b.par = []
theorem var_alloc (h : Hp) {cs : List Value} (h1 : oneCells cs = true) (sz : Nat) : Var (h.alloc cs sz []) h.next cs := ⟨h1, _, alloc_at h cs sz [], rfl, rfl, rfl⟩
theorem Var.cell {r : Nat} {cs : List Value} (hv : Var h r cs) (i : Nat) : h.cell ((Addr.mk r 0 none).add i) = cs[i]? := by
  obtain ⟨b, g1, g2, g3, g4⟩ := hv.blk
  have : (Addr.mk r 0 none).add i = ⟨r, i, none⟩ := by
    unfold Addr.add; split
    · subst i; rfl
    · simp
  rw [this]
  unfold Hp.cell
  simp [g1, g3]
theorem Var.ldI {r : Nat} {cs : List Value} (hv : Var h r cs) {i : Nat} {x : Int} (hi : cs[i]? = some (.int .i64 x)) (K : Int → Option R) : ldI h .i64 ((Addr.mk r 0 none).add i) K = K x := ldI_of ((hv.cell i).trans hi) K
theorem Var.at {r n i : Nat} (hi : i < n) (K : Addr → Option R) : atC (some ⟨r, 0, none⟩) n 1 (i : Int) K = K ((Addr.mk r 0 none).add i) := by
  rw [atC_adr (by simp) (by omega) (by omega)]
  unfold adr
  simp
theorem Var.st {r : Nat} {cs : List Value} (hv : Var h r cs) {o : Nat} {vs : List Value} (hl : o + vs.length ≤ cs.length) (h1 : oneCells vs = true) :
    ∃ h', (∀ (R : Type) (K : Hp → Option R), h.stC ((Addr.mk r 0 none).add o) vs K = K h') ∧ Var h' r (splice cs o vs) ∧ (∀ h0, Keeps h0 h → h0.next ≤ r → Keeps h0 h') ∧
      (∀ q, q ≠ r → h'.new q = h.new q) ∧ h'.next = h.next := by
  obtain ⟨b, g1, g2, g3, g4⟩ := hv.blk
  refine ⟨h.write r b o vs, fun R K => ?_, ⟨one_splice hv.one h1 o, { b with cells := splice b.cells o vs, par := [] }, by rw [write_new, if_pos rfl], g2, by rw [g3], rfl⟩, fun h0 hk hlo => keeps_write hk g1 hlo (by rw [g4]; simp) _ _, fun q hq => ?_, rfl⟩
  · have : (Addr.mk r 0 none).add o = ⟨r, o, none⟩ := by
      unfold Addr.add; split
      · subst o; rfl
      · simp
    rw [this]
    unfold Hp.stC needC
    have : o + vs.length ≤ b.cells.length := by rw [g3]; exact hl
    simp [g1, g2, this, h1]
  · rw [write_new, if_neg hq, if_neg (by rw [g4]; simp)]
theorem Var.keeps {r : Nat} {cs : List Value} (hok : HpOk h) (hk : Keeps h h') (hv : Var h r cs) : Var h' r cs := by
  obtain ⟨b, g1, g⟩ := hv.blk
  exact ⟨hv.one, b, (hk.new _ (hok.new _ _ g1).2).trans g1, g⟩
theorem Var.frame {r : Nat} {cs : List Value} (hf : ∀ b, h.new r = some b → h'.new r = some b) (hv : Var h r cs) : Var h' r cs := by
  obtain ⟨b, g1, g⟩ := hv.blk
  exact ⟨hv.one, b, hf b g1, g⟩
end
end Go.Proofs.Ytcdeeppiljcddaa.AM
