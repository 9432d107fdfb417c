/- Merged: Am22 Am23 Am24 Am26. Conditions: none. -/
import Derived.Test.YtemdhiejbncafaaAmC
import Derived.KernelRfl
import Derived.IntWalk
import Derived.WideShapes
set_option linter.all false
section
namespace Go.Proofs.Ytemdhiejbncafaa.AM
open Go
section
variable {R : Type}
def lt {α : Type} (x : α) (f : α → Option R) : Option R := f x
def someC (a : Option Addr) (K : Addr → Option R) : Option R := match a with | some ad => K ad | none => none
def ldI (h : Hp) (k : IntKind) (a : Addr) (K : Int → Option R) : Option R := match h.cell a with | some v => asIntC k v K | none => none
def ldB (h : Hp) (a : Addr) (K : Bool → Option R) : Option R := match h.cell a with | some v => asBoolC v K | none => none
def ldS (h : Hp) (a : Addr) (K : ByteArray → Option R) : Option R := match h.cell a with | some v => asStrC v K | none => none
def ldSl (h : Hp) (a : Addr) (K : Option Addr → Nat → Nat → Option R) : Option R := match h.cell a with | some v => asSliceC v K | none => none
def ldP (h : Hp) (a : Addr) (K : Option Addr → Option R) : Option R := match h.cell a with | some v => asPtrC v K | none => none
def ldM (h : Hp) (a : Addr) (K : Option Nat → Option R) : Option R := match h.cell a with | some v => asMapC v K | none => none
def ldV (h : Hp) (a : Addr) (K : Value → Option R) : Option R := match h.cell a with | some v => K v | none => none
def atC (a : Option Addr) (n s : Nat) (i : Int) (K : Addr → Option R) : Option R :=
  needC (decide (0 ≤ i) && decide (i < (n : Int))) fun _ => match a with
    | some ad => K (ad.add (i.toNat * s))
    | none => none
def runC (o : Option (Value × Hp)) (K : Value → Hp → Option R) : Option R := o.bind fun r => K r.1 r.2
def tupC (v : Value) (K : List Value → Option R) : Option R := match v with | .tuple vs => K vs.toList | _ => none
def mkC (h : Hp) (z : Value) (s bytes : Nat) (n m : Int) (K : Option Addr → Nat → Nat → Hp → Option R) : Option R :=
  needC (decide (0 ≤ n) && decide (n ≤ m) && decide (m * (bytes + 1) ≤ 70368744177664) && decide (z.cells.size = s)) fun _ =>
    K (some ⟨h.next, 0, none⟩) n.toNat 0 (h.alloc (zerosOf z (n.toNat * s)) s [])
def subC (s : ByteArray) (lo hi : Option Int) (K : ByteArray → Option R) : Option R :=
  needC (decide (0 ≤ lo.getD 0) && decide (lo.getD 0 ≤ hi.getD s.size) && decide (hi.getD s.size ≤ (s.size : Int))) fun _ =>
    K (s.extract (lo.getD 0).toNat (hi.getD s.size).toNat)
def byteC (s : ByteArray) (j : Int) (K : Int → Option R) : Option R :=
  needC (decide (0 ≤ j) && decide (j < (s.size : Int))) fun _ => K (s[j.toNat]!).toNat
def pickC (cs : List Value) (off : Nat) (K : Value → Option R) : Option R := match cs[off]? with | some v => K v | none => none
def inC (j : Int) (n : Nat) (K : Option R) : Option R := needC (decide (0 ≤ j) && decide (j < (n : Int))) fun _ => K
def mapLenC (h : Hp) (a : Option Nat) (K : Int → Option R) : Option R :=
  match a with
  | none => K 0
  | some r => match h.maps r with
    | some es => K es.length
    | none => none
def mapSetC (h : Hp) (a : Option Nat) (key v : Value) (K : Hp → Option R) : Option R :=
  match a with
  | none => none
  | some r => match h.maps r with
    | some es => match keyLook es key with
      | some _ => K (h.putMap r (keyPut es key v))
      | none => none
    | none => none
def strB (s : ByteArray) : Nat := s.size
def shlI (k : IntKind) (a b : Int) : Int := k.wrap (a * 2 ^ (min b.toNat k.bits))
def shrI (k : IntKind) (a b : Int) : Int := a.fdiv (2 ^ (min b.toNat k.bits))
def catC (a b : ByteArray) (K : ByteArray → Option R) : Option R := needC (decide (a.size + b.size ≤ 9223372036854775807)) fun _ => K (a ++ b)
end

inductive Stp where
  | fst | snd | yes | no | blk | lp
def bodyOf (fn : Func) : Code := match fn.body with | some c => c | none => .skip
def nav : List Stp → Code → Code
  | [], c => c
  | .fst :: p, .seq a _ => nav p a
  | .snd :: p, .seq _ b => nav p b
  | .yes :: p, .cond _ a _ => nav p a
  | .no :: p, .cond _ _ b => nav p b
  | .blk :: p, .block _ b => nav p b
  | .blk :: p, .scope b => nav p b
  | .lp :: p, .loop b => nav p b
  | _, c => c
section
variable (P : Program) (H : Hint)
noncomputable def ctxK {R : Type} (f : FuncId) (nt : Nat) : List Stp → Code → (Ex → Env → Hp → Option R) → Ex → Env → Hp → Option R
  | [], _, K => K
  | .fst :: p, .seq a b, K => ctxK f nt p a (seqK (fun e' h' => codeC P H (arun P H) f nt b R (maskE H f b e') h' K) K)
  | .snd :: p, .seq _ b, K => ctxK f nt p b K
  | .yes :: p, .cond _ a _, K => ctxK f nt p a K
  | .no :: p, .cond _ _ b, K => ctxK f nt p b K
  | .blk :: p, .block id b, K => ctxK f nt p b (blockK id K)
  | .blk :: p, .scope b, K => ctxK f nt p b K
  | .lp :: p, .loop b, K => ctxK f nt p b (seqK (fun e' h' => codeC P H (arun P H) f nt (.loop b) R (maskE H f b e') h' K) K)
  | _, _, K => K
noncomputable def atP (f : FuncId) (fn : Func) (nt : Nat) (p : List Stp) (e : Env) (h : Hp) : Option (Value × Hp) :=
  codeC P H (arun P H) f nt (nav p (bodyOf fn)) (Value × Hp) e h (ctxK P H f nt p (bodyOf fn) (resK P fn))
theorem atP_loop {f : FuncId} {fn : Func} {nt : Nat} {p : List Stp} {e : Env} {h : Hp} {b : Code} (hb : nav p (bodyOf fn) = .loop b) :
    atP P H f fn nt p e h = codeC P H (arun P H) f nt b (Value × Hp) (maskE H f b e) h (seqK (fun e' h' => codeC P H (arun P H) f nt (.loop b) (Value × Hp) (maskE H f b e') h' (ctxK P H f nt p (bodyOf fn) (resK P fn))) (ctxK P H f nt p (bodyOf fn) (resK P fn))) := by
  unfold atP
  rw [hb, loop_eq]
end
end Go.Proofs.Ytemdhiejbncafaa.AM
end

section
namespace Go.Proofs.Ytemdhiejbncafaa.AM
open Go
section
variable {R α : Type} {h h' h0 : Hp}

structure HpOk (h : Hp) : Prop where
  new : ∀ r b, h.new r = some b → h.base ≤ r ∧ r < h.next
  maps : ∀ r es, h.maps r = some es → h.base ≤ r ∧ r < h.next
  old : ∀ a v, h.old a = some v → a.block < h.base
  next : h.base ≤ h.next
structure Keeps (h h' : Hp) : Prop where
  base : h'.base = h.base
  old : h'.old = h.old
  next : h.next ≤ h'.next
  new : ∀ r, r < h.next → h'.new r = h.new r
  maps : ∀ r, r < h.next → h'.maps r = h.maps r
  low : min h.low h.next ≤ h'.low
  ok : HpOk h'
theorem Keeps.refl (hok : HpOk h) : Keeps h h := ⟨rfl, rfl, Nat.le_refl _, fun _ _ => rfl, fun _ _ => rfl, Nat.min_le_left _ _, hok⟩
theorem Keeps.trans {a b c : Hp} (x : Keeps a b) (y : Keeps b c) : Keeps a c :=
  ⟨y.base.trans x.base, y.old.trans x.old, Nat.le_trans x.next y.next,
   fun r hr => (y.new r (Nat.lt_of_lt_of_le hr x.next)).trans (x.new r hr), fun r hr => (y.maps r (Nat.lt_of_lt_of_le hr x.next)).trans (x.maps r hr),
   by have := x.low; have := y.low; have := x.next; omega, y.ok⟩
theorem Keeps.cell (hok : HpOk h) (hk : Keeps h h') {a : Addr} {v : Value} (hv : h.cell a = some v) : h'.cell a = some v := by
  unfold Hp.cell at hv ⊢
  have hb := hk.base
  cases hn : h.new a.block with
  | some b =>
    rw [hn] at hv
    rw [hk.new _ (hok.new _ _ hn).2, hn]
    exact hv
  | none =>
    rw [hn] at hv
    have hlt := hok.old _ _ hv
    rw [hk.new _ (Nat.lt_of_lt_of_le hlt hok.next), hn, hk.old]
    exact hv

/-! ### Slices that are read. -/
def SlOk (h : Hp) (sz : Nat) (a : Option Addr) (n c : Nat) : Prop :=
  match a with
  | none => n = 0 ∧ c = 0
  | some ad => (ad.block < h.base ∧ n ≤ c) ∨ (h.base ≤ ad.block ∧ ad.spot = none ∧ ∃ b, h.new ad.block = some b ∧ b.sz = sz)
structure Sl (E : Hp → Value → α → Prop) (h : Hp) (a : Option Addr) (n c : Nat) (l : List α) : Prop where
  len : n = l.length
  ok : SlOk h 1 a n c
  el : ∀ i (hi : i < l.length), ∃ ad v, a = some ad ∧ h.cell (ad.add i) = some v ∧ E h v l[i]
def IntE (k : IntKind) (_ : Hp) (v : Value) (x : Int) : Prop := v = .int k x
def BoolE (_ : Hp) (v : Value) (x : Bool) : Prop := v = .bool x
def StrE (_ : Hp) (v : Value) (x : ByteArray) : Prop := v = .string x
def SlE (E : Hp → Value → α → Prop) (h : Hp) (v : Value) (l : List α) : Prop := ∃ a n c, v = .slice a n c ∧ Sl E h a n c l
abbrev Ints (h : Hp) (a : Option Addr) (n c : Nat) (l : List Int) : Prop := Sl (IntE .i64) h a n c l
abbrev Lists (h : Hp) (a : Option Addr) (n c : Nat) (l : List (List Int)) : Prop := Sl (SlE (IntE .i64)) h a n c l
def Stays (E : Hp → Value → α → Prop) : Prop := ∀ h h' v x, HpOk h → Keeps h h' → E h v x → E h' v x
theorem stays_int (k : IntKind) : Stays (IntE k) := fun _ _ _ _ _ _ h => h
theorem stays_bool : Stays BoolE := fun _ _ _ _ _ _ h => h
theorem stays_str : Stays StrE := fun _ _ _ _ _ _ h => h
theorem SlOk.keeps {sz : Nat} {a : Option Addr} {n c : Nat} (hok : HpOk h) (hk : Keeps h h') (hs : SlOk h sz a n c) : SlOk h' sz a n c := by
  cases a with
  | none => exact hs
  | some ad =>
    rcases hs with ⟨h1, h2⟩ | ⟨h1, h2, b, h3, h4⟩
    · exact .inl ⟨hk.base ▸ h1, h2⟩
    · exact .inr ⟨hk.base ▸ h1, h2, b, (hk.new _ (hok.new _ _ h3).2).trans h3, h4⟩
theorem Sl.keeps {E : Hp → Value → α → Prop} (hE : Stays E) (hok : HpOk h) (hk : Keeps h h') {a : Option Addr} {n c : Nat} {l : List α} (hs : Sl E h a n c l) : Sl E h' a n c l :=
  ⟨hs.len, hs.ok.keeps hok hk, fun i hi => by
    obtain ⟨ad, v, h1, h2, h3⟩ := hs.el i hi
    exact ⟨ad, v, h1, hk.cell hok h2, hE _ _ _ _ hok hk h3⟩⟩
theorem stays_sl {E : Hp → Value → α → Prop} (hE : Stays E) : Stays (SlE E) := fun _ _ _ _ hok hk ⟨a, n, c, h1, h2⟩ => ⟨a, n, c, h1, h2.keeps hE hok hk⟩
theorem Ints.keeps (hok : HpOk h) (hk : Keeps h h') {a : Option Addr} {n c : Nat} {l : List Int} (hs : Ints h a n c l) : Ints h' a n c l := Sl.keeps (stays_int _) hok hk hs

def adr (a : Option Addr) (i : Int) : Addr := (a.getD ⟨0, 0, none⟩).add (i.toNat * 1)
theorem atC_adr {a : Option Addr} {n : Nat} {i : Int} (ha : a ≠ none) (h0 : 0 ≤ i) (h1 : i < n) (K : Addr → Option R) : atC a n 1 i K = K (adr a i) := by
  unfold atC needC
  simp only [decide_eq_true h0, decide_eq_true h1, Bool.and_self, cond_true]
  cases a with
  | none => exact absurd rfl ha
  | some ad => rfl
theorem Sl.at {E : Hp → Value → α → Prop} {a : Option Addr} {n c : Nat} {l : List α} (hs : Sl E h a n c l) {i : Nat} (hi : i < l.length) (K : Addr → Option R) : atC a n 1 (i : Int) K = K (adr a i) := by
  refine atC_adr ?_ (by omega) (by rw [hs.len]; omega) K
  obtain ⟨ad, v, h1, _⟩ := hs.el i hi
  rw [h1]; simp
theorem Sl.cell {E : Hp → Value → α → Prop} {a : Option Addr} {n c : Nat} {l : List α} (hs : Sl E h a n c l) {i : Nat} (hi : i < l.length) : ∃ v, h.cell (adr a i) = some v ∧ E h v l[i] := by
  obtain ⟨ad, v, h1, h2, h3⟩ := hs.el i hi
  refine ⟨v, ?_, h3⟩
  rw [h1]
  simpa [adr] using h2
theorem ldI_of {k : IntKind} {a : Addr} {x : Int} (hc : h.cell a = some (.int k x)) (K : Int → Option R) : ldI h k a K = K x := by
  unfold ldI asIntC; rw [hc]; simp
theorem ldB_of {a : Addr} {x : Bool} (hc : h.cell a = some (.bool x)) (K : Bool → Option R) : ldB h a K = K x := by
  unfold ldB asBoolC; rw [hc]
theorem ldS_of {a : Addr} {x : ByteArray} (hc : h.cell a = some (.string x)) (K : ByteArray → Option R) : ldS h a K = K x := by
  unfold ldS asStrC; rw [hc]
theorem ldSl_of {a : Addr} {b : Option Addr} {n c : Nat} (hc : h.cell a = some (.slice b n c)) (K : Option Addr → Nat → Nat → Option R) : ldSl h a K = K b n c := by
  unfold ldSl asSliceC; rw [hc]
theorem Ints.ld {a : Option Addr} {n c : Nat} {l : List Int} (hs : Ints h a n c l) {i : Nat} (hi : i < l.length) (K : Int → Option R) : ldI h .i64 (adr a i) K = K l[i] := by
  obtain ⟨v, h1, h2⟩ := hs.cell hi
  rw [h2] at h1
  exact ldI_of h1 K
theorem Ints.get {a : Option Addr} {n c : Nat} {l : List Int} (hs : Ints h a n c l) {i : Nat} (hi : i < l.length) (K : Int → Option R) : (atC a n 1 (i : Int) fun d => ldI h .i64 d K) = K l[i] := by
  rw [hs.at hi, hs.ld hi]
theorem Sl.nil (E : Hp → Value → α → Prop) (h : Hp) : Sl E h none 0 0 [] := ⟨rfl, ⟨rfl, rfl⟩, fun i hi => by cases hi⟩
theorem Sl.none_nil {E : Hp → Value → α → Prop} {a : Option Addr} {n c : Nat} {l : List α} (hs : Sl E h a n c l) (ha : a = none) : l = [] := by
  subst ha
  obtain ⟨h1, _⟩ := hs.ok
  have := hs.len
  cases l with
  | nil => rfl
  | cons x l => simp at this; omega

theorem wrap_in {x : Int} (h1 : -9223372036854775808 ≤ x) (h2 : x ≤ 9223372036854775807) : IntKind.i64.wrap x = x := IntWalk.i64_in x ⟨h1, h2⟩
theorem wrap_nat {k : Nat} (hk : k < 9223372036854775807) : IntKind.i64.wrap ((k : Int) + 1) = ((k + 1 : Nat) : Int) := by
  rw [wrap_in (by omega) (by omega)]; simp

/-! ### Slices of the call's own. -/
structure Mine1 (h : Hp) (lo : Nat) (r : Nat) (n : Nat) (cs : List Value) : Prop where
  ge : lo ≤ r
  len : n = cs.length
  one : oneCells cs = true
  blk : ∃ b, h.new r = some b ∧ b.rw = true ∧ b.sz = 1 ∧ b.cells = cs ∧ ∀ q ∈ b.par, lo ≤ q ∧ q < r
def Mine (h : Hp) (lo : Nat) (a : Option Addr) (n c : Nat) (cs : List Value) : Prop :=
  (a = none ∧ n = 0 ∧ c = 0 ∧ cs = []) ∨ ∃ r, a = some ⟨r, 0, none⟩ ∧ Mine1 h lo r n cs
theorem Mine.nil (h : Hp) (lo : Nat) : Mine h lo none 0 0 [] := .inl ⟨rfl, rfl, rfl, rfl⟩
theorem Mine.len {lo : Nat} {a : Option Addr} {n c : Nat} {cs : List Value} (hm : Mine h lo a n c cs) : n = cs.length := by
  rcases hm with ⟨_, h1, _, h2⟩ | ⟨r, _, h1⟩
  · rw [h1, h2]; rfl
  · exact h1.len
theorem Mine1.cell {lo r n : Nat} {cs : List Value} (hm : Mine1 h lo r n cs) (i : Nat) : h.cell ⟨r, i, none⟩ = cs[i]? := by
  obtain ⟨b, h1, h2, h3, h4, h5⟩ := hm.blk
  unfold Hp.cell
  simp only [h1, Option.isNone_none, cond_true, h4]
theorem Mine.sl {E : Hp → Value → α → Prop} {lo : Nat} {a : Option Addr} {n c : Nat} {cs : List Value} {l : List α} (hok : HpOk h) (hm : Mine h lo a n c cs) (hl : l.length = cs.length) (hE : ∀ i (hi : i < l.length), E h (cs[i]'(hl ▸ hi)) l[i]) : Sl E h a n c l := by
  refine ⟨hm.len.trans hl.symm, ?_, fun i hi => ?_⟩
  · rcases hm with ⟨rfl, h1, h2, _⟩ | ⟨r, rfl, h1⟩
    · exact ⟨h1, h2⟩
    · obtain ⟨b, g1, g2, g3, g4, g5⟩ := h1.blk
      exact .inr ⟨(hok.new _ _ g1).1, rfl, b, g1, g3⟩
  · rcases hm with ⟨rfl, h1, h2, rfl⟩ | ⟨r, rfl, h1⟩
    · rw [hl] at hi; cases hi
    · refine ⟨_, cs[i]'(hl ▸ hi), rfl, ?_, hE i hi⟩
      have : (Addr.mk r 0 none).add i = ⟨r, i, none⟩ := by
        unfold Addr.add
        split
        · subst i; rfl
        · simp
      rw [this, h1.cell]
      simp [hl ▸ hi]
def intCells (l : List Int) : List Value := l.map (.int .i64)
theorem one_intCells (l : List Int) : oneCells (intCells l) = true := by
  induction l with
  | nil => rfl
  | cons x l ih => simp [oneCells, intCells, okCell]
theorem Mine.ints {lo : Nat} {a : Option Addr} {n c : Nat} {l : List Int} (hok : HpOk h) (hm : Mine h lo a n c (intCells l)) : Ints h a n c l :=
  hm.sl hok (by simp [intCells]) fun i hi => by simp [IntE, intCells]
theorem Mine.keeps {lo : Nat} {a : Option Addr} {n c : Nat} {cs : List Value} (hok : HpOk h) (hk : Keeps h h') (hm : Mine h lo a n c cs) : Mine h' lo a n c cs := by
  rcases hm with h1 | ⟨r, h1, h2⟩
  · exact .inl h1
  · obtain ⟨b, g1, g⟩ := h2.blk
    exact .inr ⟨r, h1, h2.ge, h2.len, h2.one, b, (hk.new _ (hok.new _ _ g1).2).trans g1, g⟩
theorem Mine.down {lo lo' : Nat} {a : Option Addr} {n c : Nat} {cs : List Value} (hm : Mine h lo a n c cs) (hl : lo' ≤ lo) : Mine h lo' a n c cs := by
  rcases hm with h1 | ⟨r, h1, h2⟩
  · exact .inl h1
  · obtain ⟨b, g1, g2, g3, g4, g5⟩ := h2.blk
    exact .inr ⟨r, h1, Nat.le_trans hl h2.ge, h2.len, h2.one, b, g1, g2, g3, g4, fun q hq => ⟨Nat.le_trans hl (g5 q hq).1, (g5 q hq).2⟩⟩
def Later (lo : Nat) (h h' : Hp) : Prop := ∀ r b, lo ≤ r → h.new r = some b → ∃ b', h'.new r = some b' ∧ b'.cells = b.cells ∧ b'.sz = b.sz
theorem Later.refl (lo : Nat) (h : Hp) : Later lo h h := fun _ b _ hb => ⟨b, hb, rfl, rfl⟩
theorem Later.trans {lo : Nat} {a b c : Hp} (x : Later lo a b) (y : Later lo b c) : Later lo a c := fun r b0 hr hb => by
  obtain ⟨b1, h1, h2, h3⟩ := x r b0 hr hb
  obtain ⟨b2, h4, h5, h6⟩ := y r b1 hr h1
  exact ⟨b2, h4, h5.trans h2, h6.trans h3⟩
def Above (h : Hp) (lo : Nat) (a : Option Addr) (n : Nat) (cs : List Value) : Prop :=
  n = cs.length ∧ ((a = none ∧ cs = []) ∨ ∃ r b, a = some ⟨r, 0, none⟩ ∧ lo ≤ r ∧ h.new r = some b ∧ b.cells = cs ∧ b.sz = 1)
theorem Above.later {lo : Nat} {a : Option Addr} {n : Nat} {cs : List Value} (hl : Later lo h h') (ha : Above h lo a n cs) : Above h' lo a n cs := by
  obtain ⟨h1, h2 | ⟨r, b, h2, h3, h4, h5, h6⟩⟩ := ha
  · exact ⟨h1, .inl h2⟩
  · obtain ⟨b', g1, g2, g3⟩ := hl r b h3 h4
    exact ⟨h1, .inr ⟨r, b', h2, h3, g1, g2.trans h5, g3.trans h6⟩⟩
theorem Mine.above {lo : Nat} {a : Option Addr} {n c : Nat} {cs : List Value} (hm : Mine h lo a n c cs) : Above h lo a n cs := by
  rcases hm with ⟨rfl, rfl, _, rfl⟩ | ⟨r, rfl, hm⟩
  · exact ⟨rfl, .inl ⟨rfl, rfl⟩⟩
  · obtain ⟨b, g1, g2, g3, g4, g5⟩ := hm.blk
    exact ⟨hm.len, .inr ⟨r, b, rfl, hm.ge, g1, g4, g3⟩⟩
theorem Above.sl {E : Hp → Value → α → Prop} {lo : Nat} {a : Option Addr} {n : Nat} {cs : List Value} {l : List α} (hok : HpOk h) (hm : Above h lo a n cs) (hl : l.length = cs.length) (hE : ∀ i (hi : i < l.length), E h (cs[i]'(hl ▸ hi)) l[i]) : Sl E h a n 0 l := by
  obtain ⟨hn, hm⟩ := hm
  refine ⟨hn.trans hl.symm, ?_, fun i hi => ?_⟩
  · rcases hm with ⟨rfl, rfl⟩ | ⟨r, b, rfl, h1, g1, g4, g3⟩
    · exact ⟨hn, rfl⟩
    · exact .inr ⟨(hok.new _ _ g1).1, rfl, b, g1, g3⟩
  · rcases hm with ⟨rfl, rfl⟩ | ⟨r, b, rfl, h1, g1, g4, g3⟩
    · rw [hl] at hi; cases hi
    · refine ⟨_, cs[i]'(hl ▸ hi), rfl, ?_, hE i hi⟩
      have : (Addr.mk r 0 none).add i = ⟨r, i, none⟩ := by
        unfold Addr.add
        split
        · subst i; rfl
        · simp
      rw [this]
      unfold Hp.cell
      simp [g1, g4, hl ▸ hi]
theorem Above.ints {lo : Nat} {a : Option Addr} {n : Nat} {l : List Int} (hok : HpOk h) (hm : Above h lo a n (intCells l)) : Ints h a n 0 l :=
  hm.sl hok (by simp [intCells]) fun i hi => by simp [IntE, intCells]
theorem Mine.lt {lo r : Nat} {a : Option Addr} {n c : Nat} {cs : List Value} (hok : HpOk h) (hm : Mine h lo a n c cs) (ha : a = some ⟨r, 0, none⟩) : lo ≤ r ∧ r < h.next := by
  rcases hm with ⟨rfl, _⟩ | ⟨q, rfl, hm⟩
  · cases ha
  · cases ha
    obtain ⟨b, g1, _⟩ := hm.blk
    exact ⟨hm.ge, (hok.new _ _ g1).2⟩
theorem Mine.frame {lo : Nat} {a : Option Addr} {n c : Nat} {cs : List Value} (hm : Mine h lo a n c cs) (hf : ∀ q b, a = some ⟨q, 0, none⟩ → h.new q = some b → h'.new q = some b) : Mine h' lo a n c cs := by
  rcases hm with h1 | ⟨q, h1, hm⟩
  · exact .inl h1
  · obtain ⟨b, g1, g⟩ := hm.blk
    exact .inr ⟨q, h1, hm.ge, hm.len, hm.one, b, hf q b h1 g1, g⟩
end
end Go.Proofs.Ytemdhiejbncafaa.AM
end

section
namespace Go.Proofs.Ytemdhiejbncafaa.AM
open Go
section
variable {R α : Type} {h h' h0 : Hp}

theorem ok_alloc (hok : HpOk h) (cs : List Value) (sz : Nat) (par : List Nat) : HpOk (h.alloc cs sz par) :=
  ⟨fun r b hb => by
    rw [alloc_new] at hb
    show h.base ≤ r ∧ r < h.next + 1
    split at hb
    · rename_i he; have := hok.next; exact ⟨he ▸ this, by omega⟩
    · have := hok.new r b hb; exact ⟨this.1, by omega⟩,
   fun r es hm => by have := hok.maps r es hm; exact ⟨this.1, by show r < h.next + 1; omega⟩,
   hok.old, by have := hok.next; show h.base ≤ h.next + 1; omega⟩
theorem keeps_alloc (hk : Keeps h0 h) (cs : List Value) (sz : Nat) (par : List Nat) : Keeps h0 (h.alloc cs sz par) :=
  hk.trans ⟨rfl, rfl, Nat.le_succ _, fun r hr => by rw [alloc_new, if_neg (by omega)], fun _ _ => rfl, Nat.min_le_left _ _, ok_alloc hk.ok _ _ _⟩
theorem alloc_at (h : Hp) (cs : List Value) (sz : Nat) (par : List Nat) : (h.alloc cs sz par).new h.next = some ⟨cs, sz, true, par⟩ := by rw [alloc_new, if_pos rfl]
theorem mine_alloc {h : Hp} {lo : Nat} (hlo : lo ≤ h.next) {cs : List Value} (h1 : oneCells cs = true) {par : List Nat} (hp : ∀ q ∈ par, lo ≤ q ∧ q < h.next) (c : Nat) : Mine (h.alloc cs 1 par) lo (some ⟨h.next, 0, none⟩) cs.length c cs :=
  .inr ⟨h.next, rfl, hlo, rfl, h1, _, alloc_at h cs 1 par, rfl, rfl, rfl, hp⟩

theorem ok_seal (hok : HpOk h) (q : Nat) : HpOk (h.fence q) :=
  ⟨fun r b hb => by
    rw [seal_new] at hb
    split at hb
    · obtain ⟨b0, h1, _⟩ := Option.map_eq_some_iff.1 hb
      exact hok.new r b0 h1
    · exact hok.new r b hb, hok.maps, hok.old, hok.next⟩
theorem keeps_seal (hk : Keeps h0 h) {q : Nat} (hq : h0.next ≤ q) : Keeps h0 (h.fence q) :=
  ⟨hk.base, hk.old, hk.next, fun r hr => by rw [seal_new, if_neg (by omega)]; exact hk.new r hr, hk.maps, hk.low, ok_seal hk.ok q⟩

theorem fold_min_ge {lo : Nat} : ∀ (l : List Nat) (r : Nat), lo ≤ r → (∀ q ∈ l, lo ≤ q) → lo ≤ l.foldl min r
  | [], r, h, _ => h
  | x :: l, r, h, hl => fold_min_ge l (min r x) (by have := hl x (by simp); omega) fun q hq => hl q (by simp [hq])
theorem ok_write (hok : HpOk h) {r : Nat} {b b0 : Blk} (hb : h.new r = some b0) (o : Nat) (vs : List Value) : HpOk (h.write r b o vs) :=
  ⟨fun q b1 h1 => by
    rw [write_new] at h1
    split at h1
    · rename_i he; exact he ▸ hok.new r b0 hb
    · split at h1
      · cases h1
      · exact hok.new q b1 h1, hok.maps, hok.old, hok.next⟩
theorem keeps_write (hk : Keeps h0 h) {r : Nat} {b : Blk} (hb : h.new r = some b) (hr : h0.next ≤ r) (hp : ∀ q ∈ b.par, h0.next ≤ q) (o : Nat) (vs : List Value) : Keeps h0 (h.write r b o vs) :=
  ⟨hk.base, hk.old, hk.next, fun q hq => by
    rw [write_new, if_neg (by omega), if_neg (fun hm => by have := hp q (by simpa using hm); omega)]
    exact hk.new q hq, hk.maps, by
    have h1 := hk.low
    have h2 := fold_min_ge b.par r hr hp
    show min h0.low h0.next ≤ min h.low (b.par.foldl min r)
    omega, ok_write hk.ok hb o vs⟩

theorem splice_set {cs : List Value} {i : Nat} {v : Value} (hi : i < cs.length) : splice cs i [v] = cs.set i v := by
  unfold splice
  rw [List.set_eq_take_append_cons_drop, if_pos hi]
  simp
theorem one_set {cs : List Value} (h1 : oneCells cs = true) {v : Value} (hv : okCell v = true) (i : Nat) : oneCells (cs.set i v) = true := by
  unfold oneCells at *
  rw [List.all_eq_true] at *
  intro x hx
  rcases List.mem_or_eq_of_mem_set hx with h | h
  · exact h1 x h
  · rw [h]; exact hv
theorem one_append {cs ds : List Value} (h1 : oneCells cs = true) (h2 : oneCells ds = true) : oneCells (cs ++ ds) = true := by
  unfold oneCells at *; rw [List.all_append, h1, h2]; rfl

theorem adr_mine (r : Nat) (i : Nat) : adr (some ⟨r, 0, none⟩) (i : Int) = ⟨r, i, none⟩ := by
  unfold adr Addr.add
  simp only [Option.getD_some, Int.toNat_natCast, Nat.mul_one]
  split
  · rename_i h; rw [h]
  · simp
theorem Mine.st {lo : Nat} {a : Option Addr} {n c : Nat} {cs : List Value} (hm : Mine h lo a n c cs) {i : Nat} (hi : i < cs.length) {v : Value} (hv : okCell v = true) :
    ∃ h', (∀ (R : Type) (K : Hp → Option R), h.stC (adr a (i : Int)) [v] K = K h') ∧ Mine h' lo a n c (cs.set i v) ∧ (∀ h0, Keeps h0 h → h0.next ≤ lo → Keeps h0 h') ∧
      (∀ r q b, a = some ⟨r, 0, none⟩ → h.new q = some b → r < q → h'.new q = some b) ∧ h'.next = h.next := by
  rcases hm with ⟨rfl, h1, h2, rfl⟩ | ⟨r, rfl, hm⟩
  · cases hi
  · obtain ⟨b, g1, g2, g3, g4, g5⟩ := hm.blk
    refine ⟨h.write r b i [v], fun R K => ?_, .inr ⟨r, rfl, hm.ge, by rw [List.length_set]; exact hm.len, one_set hm.one hv i, { b with cells := splice b.cells i [v], par := [] }, ?_, g2, g3, ?_, by simp⟩, fun h0 hk hlo => keeps_write hk g1 (Nat.le_trans hlo hm.ge) (fun q hq => Nat.le_trans hlo (g5 q hq).1) _ _, fun r' q b1 h0 h1 h2 => ?_, rfl⟩
    · rw [adr_mine]
      unfold Hp.stC needC
      have : i + 1 ≤ b.cells.length := by rw [g4]; exact hi
      simp [g1, g2, this, oneCells, hv]
    · rw [write_new, if_pos rfl]
    · show splice b.cells i [v] = _
      rw [g4]; exact splice_set hi
    · cases h0
      rw [write_new, if_neg (by omega), if_neg (fun hm => by have := (g5 q (by simpa using hm)).2; omega)]
      exact h1
theorem Mine.ldI {lo : Nat} {a : Option Addr} {n c : Nat} {cs : List Value} (hm : Mine h lo a n c cs) {i : Nat} {x : Int} (hi : cs[i]? = some (.int .i64 x)) (K : Int → Option R) : ldI h .i64 (adr a (i : Int)) K = K x := by
  rcases hm with ⟨rfl, h1, h2, rfl⟩ | ⟨r, rfl, hm⟩
  · cases hi
  · rw [adr_mine]
    exact ldI_of ((hm.cell i).trans hi) K
theorem Mine.at {lo : Nat} {a : Option Addr} {n c : Nat} {cs : List Value} (hm : Mine h lo a n c cs) {i : Nat} (hi : i < cs.length) (K : Addr → Option R) : atC a n 1 (i : Int) K = K (adr a i) := by
  rcases hm with ⟨rfl, h1, h2, rfl⟩ | ⟨r, rfl, hm⟩
  · cases hi
  · exact atC_adr (by simp) (by omega) (by rw [hm.len]; omega) K

theorem mk_mine {z : Value} (hz : okCell z = true) {bytes : Nat} {n : Nat} (hn : n * (bytes + 1) ≤ 70368744177664) :
    ∃ h', (∀ (R : Type) (K : Option Addr → Nat → Nat → Hp → Option R), mkC h z 1 bytes (n : Int) (n : Int) K = K (some ⟨h.next, 0, none⟩) n 0 h') ∧ Mine h' h.next (some ⟨h.next, 0, none⟩) n 0 (List.replicate n z) ∧ (∀ h0, Keeps h0 h → Keeps h0 h') := by
  have hzc : z.cells = #[z] := by
    cases z <;> first | rfl | cases hz
  have hzs : zerosOf z (n * 1) = List.replicate n z := by
    apply List.ext_getElem
    · simp [zerosOf]
    · intro i h1 h2
      simp only [zerosOf, List.getElem_map, List.getElem_range, List.getElem_replicate]
      rw [hzc]
      simp [Nat.mod_one]
  refine ⟨h.alloc (zerosOf z (n * 1)) 1 [], fun R K => ?_, ?_, fun h0 hk => keeps_alloc hk _ _ _⟩
  · unfold mkC needC
    have e1 : decide ((n : Int) * ((bytes : Int) + 1) ≤ 70368744177664) = true := decide_eq_true (by
      have := Int.ofNat_le.2 hn
      rw [Int.natCast_mul, Int.natCast_add] at this
      exact this)
    simp [e1, hzc]
  · have : n = (zerosOf z (n * 1)).length := by rw [hzs]; simp
    have := mine_alloc (Nat.le_refl h.next) (cs := zerosOf z (n * 1)) (by rw [hzs]; simp [oneCells, hz]) (par := []) (by simp) 0
    rw [hzs] at this ⊢
    simpa using this

theorem grow_mine (hok : HpOk h) {lo : Nat} (hlo : lo ≤ h.next) {a : Option Addr} {n c : Nat} {cs : List Value} (hm : Mine h lo a n c cs) {bytes m : Nat} {vs : List Value} (hv : oneCells vs = true) (hvl : vs.length = m) (hmp : 0 < m) (hb : (n + m) * (bytes + 1) ≤ 70368744177664) (hb2 : bytes ≤ 1048576) :
    ∃ h' r', (∀ (R : Type) (K : Option Addr → Nat → Nat → Hp → Option R), growT h 1 bytes a n c m vs K = K (some ⟨r', 0, none⟩) (n + m) 0 h') ∧ Mine h' lo (some ⟨r', 0, none⟩) (n + m) 0 (cs ++ vs) ∧ (∀ h0, Keeps h0 h → h0.next ≤ lo → Keeps h0 h') ∧
      (∀ q b, h.new q = some b → a ≠ some ⟨q, 0, none⟩ → h'.new q = some b) ∧ r' = h.next ∧ ∀ lo', Later lo' h h' := by
  have hm0 : decide (m = 0) = false := decide_eq_false (by omega)
  rcases hm with ⟨rfl, rfl, rfl, rfl⟩ | ⟨r, rfl, hm⟩
  · refine ⟨h.alloc vs 1 [], h.next, fun R K => ?_, ?_, fun h0 hk _ => keeps_alloc hk _ _ _, fun q b h1 _ => ?_, rfl, ?_⟩
    · unfold growT
      rw [prepG_none]
      unfold growT0 needC
      rw [Nat.zero_add] at hb
      have e1 : decide (m * (bytes + 1) ≤ 70368744177664) = true := decide_eq_true hb
      simp only [hm0, cond_false, Nat.zero_add, e1, hv, hvl, Nat.mul_one, decide_true, Bool.and_self, cond_true, decide_eq_true hb2]
    · have := mine_alloc hlo hv (par := []) (by simp) 0
      simpa [hvl] using this
    · rw [alloc_new, if_neg (by have := hok.new q b h1; omega)]; exact h1
    · intro lo' q b _ h1
      exact ⟨b, by rw [alloc_new, if_neg (by have := hok.new q b h1; omega)]; exact h1, rfl, rfl⟩
  · obtain ⟨b, g1, g2, g3, g4, g5⟩ := hm.blk
    refine ⟨(h.fence r).alloc (b.cells ++ vs) 1 (r :: b.par), h.next, fun R K => ?_, ?_, fun h0 hk hlo => keeps_alloc (keeps_seal hk (Nat.le_trans hlo hm.ge)) _ _ _, fun q b1 h1 h2 => ?_, rfl, ?_⟩
    · unfold growT
      rw [prepG_full g1 (by rw [g4]; show 0 + n * 1 = _; rw [hm.len]; omega)]
      unfold growT0 needC
      have e1 : decide ((n + m) * (bytes + 1) ≤ 70368744177664) = true := decide_eq_true hb
      have e3 : n = b.cells.length := by rw [g4]; exact hm.len
      have e4 : oneCells b.cells = true := by rw [g4]; exact hm.one
      simp only [hm0, cond_false, e1, hv, hvl, Nat.mul_one, decide_true, Bool.and_self, cond_true, decide_eq_true hb2, g1, g2, g3, Option.isNone_none, Nat.zero_add, e4, ← e3, List.drop_zero]
    · have h1 : oneCells (b.cells ++ vs) = true := one_append (by rw [g4]; exact hm.one) hv
      have h2 := mine_alloc (h := h.fence r) hlo h1 (par := r :: b.par) (fun q hq => by
        rcases List.mem_cons.1 hq with rfl | hq
        · exact ⟨hm.ge, (hok.new _ _ g1).2⟩
        · have := g5 q hq
          exact ⟨this.1, Nat.lt_trans this.2 (hok.new _ _ g1).2⟩) 0
      have hl : (b.cells ++ vs).length = n + m := by rw [List.length_append, hvl, g4, ← hm.len]
      rw [hl, g4] at h2
      rw [g4]
      exact h2
    · rw [alloc_new, if_neg (by have := hok.new q b1 h1; show ¬ q = h.next; omega), seal_new, if_neg (fun he => h2 (by rw [he]))]
      exact h1
    · intro lo' q b1 _ h1
      by_cases he : q = r
      · subst he
        have hb1 : b1 = b := Option.some.inj (h1.symm.trans g1)
        exact ⟨{ b1 with rw := false }, by rw [alloc_new, if_neg (by have := hok.new q b1 h1; show ¬ q = h.next; omega), seal_new, if_pos rfl, h1]; rfl, rfl, rfl⟩
      · exact ⟨b1, by rw [alloc_new, if_neg (by have := hok.new q b1 h1; show ¬ q = h.next; omega), seal_new, if_neg he]; exact h1, rfl, rfl⟩
theorem append1 (hok : HpOk h) {lo : Nat} (hlo : lo ≤ h.next) {a : Option Addr} {n c : Nat} {cs : List Value} (hm : Mine h lo a n c cs) {bytes : Nat} {v : Value} (hv : okCell v = true) (hb : (n + 1) * (bytes + 1) ≤ 70368744177664) (hb2 : bytes ≤ 1048576) :
    ∃ h' r', (∀ (R : Type) (K : Option Addr → Nat → Nat → Hp → Option R), (lt (h.alloc [v] 1 []) fun h1 => srcC h1 1 1 (.slice (some ⟨h.next, 0, none⟩) 1 0) fun vs => growT h1 1 bytes a n c 1 vs K) = K (some ⟨r', 0, none⟩) (n + 1) 0 h') ∧ Mine h' lo (some ⟨r', 0, none⟩) (n + 1) 0 (cs ++ [v]) ∧ (∀ h0, Keeps h0 h → h0.next ≤ lo → Keeps h0 h') ∧
      (∀ q b, h.new q = some b → a ≠ some ⟨q, 0, none⟩ → h'.new q = some b) ∧ h.next < r' ∧ ∀ lo', Later lo' h h' := by
  have hok1 := ok_alloc hok [v] 1 []
  have hk1 : Keeps h (h.alloc [v] 1 []) := keeps_alloc (Keeps.refl hok) _ _ _
  obtain ⟨h', r', e1, e2, e3, e4, e5, e6⟩ := grow_mine hok1 (lo := lo) (by show lo ≤ h.next + 1; omega) (hm.keeps hok hk1) (vs := [v]) (m := 1) (bytes := bytes) (by simpa [oneCells] using hv) rfl (by omega) hb hb2
  refine ⟨h', r', fun R K => ?_, e2, fun h0 hk hlo => e3 h0 (keeps_alloc hk _ _ _) hlo, fun q b h1 h2 => e4 q b (by rw [alloc_new, if_neg (by have := hok.new q b h1; omega)]; exact h1) h2, by rw [e5]; exact Nat.lt_succ_self _, fun lo' => Later.trans (fun q b _ h1 => ⟨b, by rw [alloc_new, if_neg (by have := hok.new q b h1; omega)]; exact h1, rfl, rfl⟩) (e6 lo')⟩
  unfold lt srcC
  have hc : (h.alloc [v] 1 []).rawCells ⟨h.next, 0, none⟩ 0 (1 * 1) = some [v] := by
    have : (h.alloc [v] 1 []).cell ⟨h.next, 0, none⟩ = some v := by
      unfold Hp.cell; rw [alloc_at]; rfl
    simp [Hp.rawCells, Addr.add, this]
  simp only [hc]
  exact e1 R K
end
end Go.Proofs.Ytemdhiejbncafaa.AM
end

section
namespace Go.Proofs.Ytemdhiejbncafaa.AM
open Go
theorem start_ok (w : World) : HpOk (start w) :=
  ⟨fun r b h => (by cases h), fun r es h => (by cases h), fun a v h => by
    simp only [start] at h ⊢
    cases h1 : decide (a.block < w.heap.size) <;> rw [h1] at h
    · cases h
    · exact of_decide_eq_true h1, Nat.le_refl _⟩
def IsRow (k : IntKind) (w : World) (a : Option Addr) (len cap : Nat) (zs : List Int) : Prop :=
  (a = none ∧ len = 0 ∧ cap = 0 ∧ zs = []) ∨
  ∃ x, a = some x ∧ len ≤ cap ∧ cap ≤ maxLen ∧ zs.length = cap ∧ (∀ i, i < zs.length → w.cell? (x.add i) = some (.int k (zs.getD i 0))) ∧ ∀ n ∈ zs, (Lit.int k n).wf = true
theorem slice_block {P : Program} {W : World} {base : Nat} {t e : TypeId} {x : Addr} {len cap : Nat} (ht : P.underlying t = some (.slice e)) (h : Value.okWide P W .any base t (.slice (some x) len cap)) : x.block < W.heap.size := by
  simp only [Value.okWide, ht, Cell.okWide, Cell.ok] at h
  obtain ⟨_, _, _, _, row, cells, hs, _⟩ := h
  unfold World.shape? at hs
  split at hs
  · rename_i c el rest hh
    rcases Nat.lt_or_ge x.block W.heap.size with h1 | h1
    · exact h1
    · rw [Array.getElem?_eq_none h1] at hh; cases hh
  · cases hs
theorem ints_start {w : World} {a : Option Addr} {len cap : Nat} {zs : List Int} (hr : IsRow .i64 w a len cap zs) (hb : ∀ x, a = some x → x.block < w.heap.size) : Ints (start w) a len cap (zs.take len) := by
  rcases hr with ⟨rfl, rfl, rfl, rfl⟩ | ⟨x, rfl, h1, h2, h3, h4, h5⟩
  · exact Sl.nil _ _
  · refine ⟨by rw [List.length_take]; omega, .inl ⟨hb x rfl, h1⟩, fun i hi => ?_⟩
    rw [List.length_take] at hi
    have := h4 i (by omega)
    refine ⟨x, _, rfl, start_cell this rfl, ?_⟩
    rw [List.getElem_take]
    unfold IntE
    rw [List.getD_eq_getElem?_getD, List.getElem?_eq_getElem (by omega)]
    rfl
theorem flat_row {w : World} {a : Option Addr} {len cap : Nat} {zs : List Int} (hr : IsRow .i64 w a len cap zs) (hb : ∀ x, a = some x → x.block < w.heap.size) : flatB w.heap.size (.slice a len cap) = true := by
  rcases hr with ⟨rfl, rfl, rfl, rfl⟩ | ⟨x, rfl, _⟩
  · rfl
  · exact decide_eq_true (hb x rfl)
theorem eqOK_none (P : Program) : EqOK P (fun _ => none) := fun _ _ h => by cases h
end Go.Proofs.Ytemdhiejbncafaa.AM
end
