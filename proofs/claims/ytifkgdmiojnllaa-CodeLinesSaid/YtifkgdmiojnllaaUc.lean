/- Merged: Uc1 Uc2 Uc3. Conditions: none. -/
import Derived.Test.YtifkgdmiojnllaaUa
set_option linter.all false
section
namespace Go.Proofs.Ytifkgdmiojnllaa.VM
set_option linter.unusedSectionVars false
open Go AM
abbrev ints (l : List Int) : List T := l.map (.int .i64 ·)
def cond1 (c : Bool) (v : Int) : List Int := bif c then [v] else []
def readsL (x : Ins) : List Int := cond1 (decide ((shOf x.op).k0 = 2)) x.a ++ (cond1 (decide ((shOf x.op).k1 = 2)) x.b ++ cond1 (decide ((shOf x.op).k2 = 2)) x.c)
abbrev numsV (l : List Int) : V := .t (.list 1 (!l.isEmpty) (ints l))
theorem reads15 (x : Ins) : vr 15 0 [.t (insT x)] e0 = some (numsV (readsL x), e0) := by
 unfold insT
 rw [eq15, R15, of38, callK_some]
 unfold readsL
 generalize shOf x.op = s
 unfold shT
 rw [asTup_tup, consV_cons, asT_t, asA_agg, consT_cons, asS_str, consT_cons, asI_int, consT_cons, asI_int, consT_cons, asI_int, endT_nil, consV_cons, asT_t, asB_bool, endV_nil, endB_nil]
 rw [eq39, R39, callK_some, asG_agg, consV_cons, isPtr_ptr, consV_cons, isPtr_ptr, consV_cons, isPtr_ptr, endV_nil, consB_cons, asVar_var, consV_cons, asT_t, asI_int, consV_cons, asT_t, asI_int, consV_cons, asT_t, asI_int, consV_cons, asT_t, asI_int, consV_cons, asT_t, asI_int, endV_nil, endB_nil]
 cases decide (s.k0 = 2) <;> cases decide (s.k1 = 2) <;> cases decide (s.k2 = 2) <;> rfl
def writesB (x : Ins) : Bool := decide ((shOf x.op).k0 = 1)
theorem writes16 (x : Ins) : vr 16 0 [.t (insT x)] e0 = some (.tup [.t (.int .i64 (bif writesB x then x.a else 0)), .t (.bool (writesB x))], e0) := by
 unfold insT
 rw [eq16, R16, of38, callK_some]
 unfold writesB
 generalize shOf x.op = s
 unfold shT
 rw [asTup_tup, consV_cons, asT_t, asA_agg, consT_cons, asS_str, consT_cons, asI_int, consT_cons, asI_int, consT_cons, asI_int, endT_nil, consV_cons, asT_t, asB_bool, endV_nil, endB_nil]
 cases decide (s.k0 = 1) <;> rfl
end Go.Proofs.Ytifkgdmiojnllaa.VM
end

section
namespace Go.Proofs.Ytifkgdmiojnllaa.VM
set_option linter.unusedSectionVars false
set_option linter.unusedVariables false
set_option linter.unusedSimpArgs false
open Go AM
def tailB (l : List T) : List UInt8 := l.flatMap fun x => 32 :: (tkS x).data.toList
def lineB : List T → List UInt8
 | [] => []
 | x :: l => (tkS x).data.toList ++ tailB l
def joinB : List (List UInt8) → List UInt8
 | [] => []
 | l :: ls => l ++ ls.flatMap fun m => 10 :: m
theorem jtext_tail : ∀ (l : List T), (∀ x ∈ l, Fine x) → ∀ (r : List (Tk × Int)), jtext [32] (l.map tkOf ++ r) = tailB l ++ jtext [32] r
 | [], _, r => rfl
 | x :: l, h, r => by
  obtain ⟨s, k, n, rfl, ht⟩ := fine_tok (h x (List.mem_cons_self ..))
  have h4 := (tok_kinds ht).1
  rw [List.map_cons, List.cons_append, tkOf_tok, jtext, if_neg h4, jtext_tail l (fun y hy => h y (List.mem_cons_of_mem _ hy)) r]
  unfold tailB
  rw [List.flatMap_cons]
  show [32] ++ (s.data.toList ++ _) = _
  simp [tkS, tokT]
theorem jtext_line {l : List T} (h : ∀ x ∈ l, Fine x) (hn : l ≠ []) (sp : List UInt8) (r : List (Tk × Int)) : jtext sp (l.map tkOf ++ r) = sp ++ (lineB l ++ jtext [32] r) := by
 cases l with
 | nil => exact absurd rfl hn
 | cons x l =>
  obtain ⟨s, k, n, rfl, ht⟩ := fine_tok (h x (List.mem_cons_self ..))
  have h4 := (tok_kinds ht).1
  rw [List.map_cons, List.cons_append, tkOf_tok, jtext, if_neg h4, jtext_tail l (fun y hy => h y (List.mem_cons_of_mem _ hy)) r]
  show sp ++ (s.data.toList ++ _) = sp ++ ((s.data.toList ++ tailB l) ++ _)
  rw [List.append_assoc]
theorem jtext_lines : ∀ (ls : List (List T)), (∀ l ∈ ls, l ≠ [] ∧ ∀ x ∈ l, Fine x) → jtext [32] ((ls.flatMap fun l => lineT :: l).map tkOf) = (ls.map lineB).flatMap fun m => 10 :: m
 | [], _ => rfl
 | l :: ls, h => by
  obtain ⟨h1, h2⟩ := h l (List.mem_cons_self ..)
  rw [List.flatMap_cons, List.map_append, List.map_cons, List.map_cons, List.flatMap_cons, List.cons_append]
  have e : jtext [32] (tkOf lineT :: (l.map tkOf ++ (ls.flatMap fun l => lineT :: l).map tkOf)) = jtext [10] (l.map tkOf ++ (ls.flatMap fun l => lineT :: l).map tkOf) := by
   have h4 : (tkOf lineT).1.1 = 4 := rfl
   rw [jtext, if_pos h4]
  rw [e, jtext_line h2 h1, jtext_lines ls fun m hm => h m (List.mem_cons_of_mem _ hm)]
  rfl
theorem text_lines {r a i : Int} {l : List Ins} (h : Okb r a i l) : jtext [] ((codeW r a i l).map tkOf) = joinB (lineB (headW r a i) :: l.map fun x => lineB (insW x)) := by
 have hl : ∀ m ∈ l.map insW, m ≠ [] ∧ ∀ x ∈ m, Fine x := fun m hm => by
  obtain ⟨x, hx, rfl⟩ := List.mem_map.1 hm
  exact ⟨insW_ne x, insW_fine h.r0.2 h.a0.2 (by have := h.len.2; omega) (h.may x hx)⟩
 rw [codeW_eq, flatMap_map, List.map_append, jtext_line (headW_fine h) (by unfold headW; simp), jtext_lines _ hl]
 show [] ++ (lineB (headW r a i) ++ _) = lineB (headW r a i) ++ _
 rw [List.nil_append, List.map_map]
 rfl
theorem tok_bytes {l : List UInt8} {k n : Int} (h : tok l = some (k, n)) : ∀ b ∈ l, b ≠ 10 ∧ b ≠ 32 := by
 obtain ⟨_, b, t, rfl, h⟩ := tok_kinds h
 intro c hc
 have hk := byte_kinds c
 rcases h with h | ⟨rfl, hs⟩
 ·rw [List.all_eq_true] at h
  obtain ⟨g1, g2, _⟩ := hk.1 (h c hc)
  rw [Bool.or_eq_false_iff] at g2
  exact ⟨of_decide_eq_false g1, of_decide_eq_false g2.1⟩
 ·rw [List.mem_singleton] at hc
  subst hc
  obtain ⟨g1, g2, _⟩ := hk.2 hs
  rw [Bool.or_eq_false_iff] at g2
  exact ⟨of_decide_eq_false g1, of_decide_eq_false g2.1⟩
theorem tail_no : ∀ (l : List T), (∀ x ∈ l, Fine x) → ∀ b ∈ tailB l, b ≠ 10 := by
 intro l h b hb
 unfold tailB at hb
 obtain ⟨x, hx, hb⟩ := List.mem_flatMap.1 hb
 obtain ⟨s, k, n, rfl, ht⟩ := fine_tok (h x hx)
 rcases List.mem_cons.1 hb with rfl | hb
 ·decide
 ·exact (tok_bytes ht b hb).1
theorem line_no {l : List T} (h : ∀ x ∈ l, Fine x) : ∀ b ∈ lineB l, b ≠ 10 := by
 intro b hb
 cases l with
 | nil => cases hb
 | cons x l =>
  unfold lineB at hb
  rcases List.mem_append.1 hb with hb | hb
  ·obtain ⟨s, k, n, rfl, ht⟩ := fine_tok (h x (List.mem_cons_self ..))
   exact (tok_bytes ht b hb).1
  ·exact tail_no l (fun y hy => h y (List.mem_cons_of_mem _ hy)) b hb
def cntP : List UInt8 → Nat
 | [] => 0
 | [_] => 0
 | a :: b :: r => (if a = 32 ∧ b = 114 then 1 else 0) + cntP (b :: r)
theorem cntP_no : ∀ (l m : List UInt8), (∀ b ∈ l, b ≠ 32) → cntP (l ++ m) = cntP m
 | [], m, _ => rfl
 | [a], m, h => by
  cases m with
  | nil => rfl
  | cons b m =>
   have ha := h a (List.mem_cons_self ..)
   rw [List.cons_append, List.nil_append, cntP, if_neg (fun e => ha e.1), Nat.zero_add]
 | a :: b :: l, m, h => by
  have ha := h a (List.mem_cons_self ..)
  rw [List.cons_append, List.cons_append, cntP, if_neg (fun e => ha e.1), Nat.zero_add]
  exact cntP_no (b :: l) m fun c hc => h c (List.mem_cons_of_mem _ hc)
def isR (x : T) : Bool := decide ((tkS x).data.toList.head? = some 114)
theorem cntP_tail : ∀ (l : List T), (∀ x ∈ l, Fine x) → cntP (tailB l) = (l.filter isR).length
 | [], _ => rfl
 | x :: l, h => by
  obtain ⟨s, k, n, rfl, ht⟩ := fine_tok (h x (List.mem_cons_self ..))
  obtain ⟨_, b, t, hb, _⟩ := tok_kinds ht
  have hs := tok_bytes ht
  have ih := cntP_tail l fun y hy => h y (List.mem_cons_of_mem _ hy)
  have e : tailB (tokT s k n :: l) = 32 :: (s.data.toList ++ tailB l) := rfl
  have er : isR (tokT s k n) = decide (b = 114) := by
   show decide (s.data.toList.head? = some 114) = _
   rw [hb]
   simp
  rw [e, List.filter_cons, er]
  have e2 := cntP_no s.data.toList (tailB l) fun c hc => (hs c hc).2
  rw [hb, List.cons_append] at e2 ⊢
  rw [cntP, e2, ih]
  by_cases h1 : b = 114
  ·rw [if_pos ⟨rfl, h1⟩, decide_eq_true h1]
   simp
   omega
  ·rw [if_neg (fun e => h1 e.2), decide_eq_false h1]
   simp
theorem cntP_line {x : T} {l : List T} (h : ∀ y ∈ x :: l, Fine y) : cntP (lineB (x :: l)) = (l.filter isR).length := by
 obtain ⟨s, k, n, rfl, ht⟩ := fine_tok (h x (List.mem_cons_self ..))
 have e : lineB (tokT s k n :: l) = s.data.toList ++ tailB l := rfl
 rw [e, cntP_no _ _ fun c hc => (tok_bytes ht c hc).2, cntP_tail l fun y hy => h y (List.mem_cons_of_mem _ hy)]
theorem digits_no (n : Nat) : (digs n).head? ≠ some 114 := by
 obtain ⟨b, t, h, _⟩ := digs_head n
 have ha := digs_all n
 rw [h] at ha ⊢
 simp only [List.all_cons, Bool.and_eq_true] at ha
 intro e
 simp at e
 subst e
 exact absurd ha.1 (by decide)
theorem numT_r {n : Int} (h : -1000000000000000000 < n) : (numT n).filter isR = [] := by
 unfold numT
 have hd : ∀ m : Int, 0 ≤ m → isR (tokT ⟨⟨digL m⟩⟩ 2 m) = false := fun m hm => by
  refine decide_eq_false ?_
  show (digL m).head? ≠ some 114
  rw [digL_pos hm]
  exact digits_no _
 by_cases hn : n < 0
 ·rw [decide_eq_true hn, ct, List.filter_cons, List.filter_cons, hd _ (by omega)]
  rfl
 ·rw [decide_eq_false hn, cf, List.filter_cons, hd _ (by omega)]
  rfl
def oneR (k : Int) : Nat := if k = 1 ∨ k = 2 then 1 else 0
theorem fldW_r {k f n : Int} (h1 : 0 ≤ f) (h2 : -1000000000000000000 < n) : ((fldW k f n).filter isR).length = oneR k := by
 unfold fldW oneR
 split
 ·rfl
 ·split
  ·rfl
  ·split
   ·rw [numT_r (by omega)]; rfl
   ·split
    ·rw [numT_r h2]; rfl
    ·rfl
def wantR (x : Ins) : Nat := (readsL x).length + (bif writesB x then 1 else 0)
theorem want_regs (x : Ins) : oneR (shOf x.op).k0 + (oneR (shOf x.op).k1 + oneR (shOf x.op).k2) = wantR x := by
 have h := shape_cases x.op
 unfold wantR readsL writesB
 generalize (shOf x.op).k0 = a at h ⊢
 generalize (shOf x.op).k1 = b at h ⊢
 generalize (shOf x.op).k2 = c at h ⊢
 simp only [List.mem_cons, Prod.mk.injEq, List.not_mem_nil, or_false] at h
 rcases h with ⟨rfl, rfl, rfl⟩ | ⟨rfl, rfl, rfl⟩ | ⟨rfl, rfl, rfl⟩ | ⟨rfl, rfl, rfl⟩ | ⟨rfl, rfl, rfl⟩ | ⟨rfl, rfl, rfl⟩ | ⟨rfl, rfl, rfl⟩ | ⟨rfl, rfl, rfl⟩ | ⟨rfl, rfl, rfl⟩ | ⟨rfl, rfl, rfl⟩ <;> rfl
theorem ins_regs {r a n : Int} {x : Ins} (hr : r ≤ 128) (ha : a ≤ 128) (hn : n ≤ 4096) (h : mayB r a n x = true) : cntP (lineB (insW x)) = wantR x := by
 obtain ⟨h0, h1, h2, h3, h4⟩ := may_all hr ha hn h
 have hf := insW_fine hr ha hn h
 unfold insW at hf ⊢
 rw [cntP_line hf, List.filter_append, List.filter_append, List.length_append, List.length_append, fldW_r h1.1 h4.1, fldW_r h2.1 h4.1, fldW_r h3.1 h4.1]
 exact want_regs x
end Go.Proofs.Ytifkgdmiojnllaa.VM
end

section
namespace Go.Proofs.Ytifkgdmiojnllaa.VM
set_option linter.unusedSectionVars false
set_option linter.unusedVariables false
set_option linter.unusedSimpArgs false
open Go AM
theorem at_list {s : ByteArray} {n : Nat} {b : UInt8} {t : List UInt8} (h : s.data.toList.drop n = b :: t) : n < s.size ∧ s[n]! = b ∧ s.data.toList.drop (n + 1) = t := by
 have hn : n < s.size := by
  rcases Nat.lt_or_ge n s.size with h1 | h1
  ·exact h1
  ·rw [List.drop_of_length_le (by rw [size_list]; exact h1)] at h; cases h
 have hd := list_drop hn
 rw [h] at hd
 exact ⟨hn, by cases hd; rfl, by cases hd; rfl⟩
theorem dec_32 (b : UInt8) : decide ((b.toNat : Int) = 32) = decide (b = 32) := of_decide_eq_true (all_bytes (p := fun b => decide (decide ((b.toNat : Int) = 32) = decide (b = 32))) (by decide +kernel) b)
theorem dec_114 (b : UInt8) : decide ((b.toNat : Int) = 114) = decide (b = 114) := of_decide_eq_true (all_bytes (p := fun b => decide (decide ((b.toNat : Int) = 114) = decide (b = 114))) (by decide +kernel) b)
theorem dec_10 (b : UInt8) : decide ((b.toNat : Int) = 10) = decide (b = 10) := of_decide_eq_true (all_bytes (p := fun b => decide (decide ((b.toNat : Int) = 10) = decide (b = 10))) (by decide +kernel) b)
theorem L15r_spec (s : ByteArray) (hs : s.size ≤ 1000000) (up : Bool) (ln x0 x1 x2 : Int) (z : Bool) (m : List T) (R : Option Res) (e : Nat) : ∀ (k : Nat) (seg post : List UInt8) (p : Nat) (regs : Nat), seg.length = k → s.data.toList.drop p = seg ++ post → regs ≤ p → p + seg.length = e →
  L7_15 up s ln (e : Int) ((regs + cntP seg : Nat) : Int) (e : Int) x0 x1 x2 z m = R →
  L7_15 up s ln (e : Int) (regs : Int) (p : Int) x0 x1 x2 z m = R := by
 intro k
 induction k with
 | zero =>
  intro seg post p regs hk hd hr he h
  have : seg = [] := List.length_eq_zero_iff.1 hk
  subst this
  have : p = e := he
  subst this
  exact h
 | succ k ih =>
  intro seg post p regs hk hd hr he h
  cases seg with
  | nil => cases hk
  | cons b seg =>
   rw [List.cons_append] at hd
   obtain ⟨h1, h2, h3⟩ := at_list hd
   have hw : IntKind.i64.wrap ((p : Int) + 1) = ((p + 1 : Nat) : Int) := by rw [wrap64 (by omega) (by omega)]; simp
   have he2 : p + 1 + seg.length = e := by simp at he; omega
   have hlen : e ≤ s.size := by
    have := congrArg List.length hd
    rw [List.length_drop, size_list, List.length_cons, List.length_append] at this
    omega
   have go : ∀ regs2 : Nat, regs2 ≤ regs + 1 → regs + cntP (b :: seg) = regs2 + cntP seg → L7_15 up s ln (e : Int) (regs2 : Int) ((p + 1 : Nat) : Int) x0 x1 x2 z m = R := by
    intro regs2 hr2 he3
    rw [he3] at h
    exact ih seg post (p + 1) regs2 (by simpa using hk) h3 (by omega) he2 h
   cases seg with
   | nil =>
    have he4 : p + 1 = e := he2
    have g := go regs (by omega) rfl
    rw [L7_15_eq, RL7_15] at g ⊢
    have hw2 : IntKind.i64.wrap (((p + 1 : Nat) : Int) + 1) = ((p + 2 : Nat) : Int) := by rw [wrap64 (by omega) (by omega)]; omega
    have d2 : decide (IntKind.i64.wrap (((p + 1 : Nat) : Int) + 1) < (e : Int)) = false := by rw [hw2]; exact decide_eq_false (by omega)
    have d1 : decide (IntKind.i64.wrap ((p : Int) + 1) < (e : Int)) = false := by rw [hw]; exact decide_eq_false (by omega)
    rw [d2, cf] at g
    rw [d1, cf]
    exact g
   | cons c seg =>
    obtain ⟨g1, g2, _⟩ := at_list h3
    have d : decide (((p + 1 : Nat) : Int) < (e : Int)) = true := decide_eq_true (by simp at he2; omega)
    have n0 : (decide ((0 : Int) ≤ (p : Int)) && decide ((p : Int) < (s.size : Int))) = true := by rw [decide_eq_true (by omega), decide_eq_true (by omega)]; rfl
    have n1 : (decide ((0 : Int) ≤ ((p + 1 : Nat) : Int)) && decide (((p + 1 : Nat) : Int) < (s.size : Int))) = true := by rw [decide_eq_true (by omega), decide_eq_true (by omega)]; rfl
    have hwr : IntKind.i64.wrap ((regs : Int) + 1) = ((regs + 1 : Nat) : Int) := by rw [wrap64 (by omega) (by omega)]; simp
    rw [L7_15_eq, RL7_15, hw, d, ct, needC_true n0, Int.toNat_natCast, h2, dec_32, needC_true n1, Int.toNat_natCast, g2, dec_114, hwr]
    by_cases hb : b = 32
    ·rw [decide_eq_true hb, ct]
     by_cases hc : c = 114
     ·rw [decide_eq_true hc, ct]
      exact go (regs + 1) (by omega) (by rw [cntP, if_pos ⟨hb, hc⟩]; omega)
     ·rw [decide_eq_false hc, cf]
      exact go regs (by omega) (by rw [cntP, if_neg (fun e => hc e.2)]; omega)
    ·rw [decide_eq_false hb, cf]
     exact go regs (by omega) (by rw [cntP, if_neg (fun e => hb e.1)]; omega)
theorem L10_scan (s : ByteArray) (hs : s.size ≤ 1000000) (up : Bool) (ln x0 x1 x2 : Int) (z : Bool) (m : List T) (from_ : Int) : ∀ (seg post : List UInt8) (p : Nat), s.data.toList.drop p = seg ++ post → (∀ b ∈ seg, b ≠ 10) → p ≤ s.size → (post = [] ∨ ∃ t, post = 10 :: t) →
  L7_10 up s ln from_ (p : Int) x0 x1 x2 z m = L7_15 up s ln ((p + seg.length : Nat) : Int) 0 from_ x0 x1 x2 z m
 | [], post, p, hd, _, hp, hpost => by
  rw [L7_10_eq, RL7_10, decide_eq_true (by omega), ct]
  rcases hpost with rfl | ⟨t, rfl⟩
  ·have hsz : s.size = p := by
    have := congrArg List.length hd
    rw [List.length_drop, size_list] at this
    simp at this
    omega
   rw [decide_eq_false (by omega), cf]
   rfl
  ·obtain ⟨h1, h2, _⟩ := at_list hd
   have n0 : (decide ((0 : Int) ≤ (p : Int)) && true) = true := by rw [decide_eq_true (by omega)]; rfl
   have d : decide (((10 : UInt8).toNat : Int) = 10) = true := rfl
   rw [decide_eq_true (by omega), ct, needC_true n0, Int.toNat_natCast, h2, d, bNT, cf]
   rfl
 | b :: seg, post, p, hd, hb, hp, hpost => by
  rw [List.cons_append] at hd
  obtain ⟨h1, h2, h3⟩ := at_list hd
  have hw : IntKind.i64.wrap ((p : Int) + 1) = ((p + 1 : Nat) : Int) := by rw [wrap64 (by omega) (by omega)]; simp
  have n0 : (decide ((0 : Int) ≤ (p : Int)) && true) = true := by rw [decide_eq_true (by omega)]; rfl
  have d : decide ((b.toNat : Int) = 10) = false := by rw [dec_10]; exact decide_eq_false (hb b (List.mem_cons_self ..))
  rw [L7_10_eq, RL7_10, decide_eq_true (by omega), ct, decide_eq_true (by omega), ct, needC_true n0, Int.toNat_natCast, h2, d, bNF, ct, hw, L10_scan s hs up ln x0 x1 x2 z m from_ seg post (p + 1) h3 (fun c hc => hb c (List.mem_cons_of_mem _ hc)) (by omega) hpost]
  have e : p + 1 + seg.length = p + (b :: seg).length := by simp; omega
  rw [e]
theorem joinB_split (l : List UInt8) (ls : List (List UInt8)) : (ls.flatMap fun m => 10 :: m) = [] ∨ ∃ t, (ls.flatMap fun m => 10 :: m) = 10 :: t := by
 cases ls with
 | nil => exact .inl rfl
 | cons m ls => exact .inr ⟨m ++ ls.flatMap fun m => 10 :: m, rfl⟩
theorem L10_lines (s : ByteArray) (hs : s.size ≤ 1000000) (r a i : Int) (z : Bool) (l : List Ins) (hl : l.length ≤ 300) : ∀ (ls : List (List UInt8)) (p k : Nat), (k = 0 → ls ≠ []) → s.data.toList.drop p = joinB ls → ls ≠ [] → p ≤ s.size → k + ls.length = l.length + 1 → (∀ m ∈ ls, ∀ b ∈ m, b ≠ 10) →
  (∀ j m, ls[j]? = some m → 0 < k + j → ∃ x, l[k + j - 1]? = some x ∧ cntP m = wantR x) →
  L7_10 true s (k : Int) (p : Int) (p : Int) r a i z (l.map insT) = some (.t (.bool true), e0) := by
 intro ls
 induction ls with
 | nil => intro p k _ _ h; exact absurd rfl h
 | cons m ls ih =>
  intro p k hk0 hd _ hp hk hno hwant
  have hseg : s.data.toList.drop p = m ++ ls.flatMap fun m => 10 :: m := hd
  have hlen : p + m.length ≤ s.size := by
   have := congrArg List.length hseg
   rw [List.length_drop, size_list, List.length_append] at this
   omega
  rw [L10_scan s hs true _ _ _ _ _ _ _ m _ p hseg (hno m (List.mem_cons_self ..)) hp (joinB_split m ls)]
  refine L15r_spec s hs true _ _ _ _ _ _ _ (p + m.length) _ m _ p 0 rfl hseg (by omega) rfl ?_
  rw [Nat.zero_add]
  have hw1 : IntKind.i64.wrap (((p + m.length : Nat) : Int) + 1) = ((p + m.length + 1 : Nat) : Int) := by rw [wrap64 (by omega) (by omega)]; simp
  have hwk : IntKind.i64.wrap ((k : Int) + 1) = ((k + 1 : Nat) : Int) := by rw [wrap64 (by omega) (by omega)]; simp
  have next : L7_10 true s ((k + 1 : Nat) : Int) ((p + m.length + 1 : Nat) : Int) ((p + m.length + 1 : Nat) : Int) r a i z (l.map insT) = some (.t (.bool true), e0) := by
   cases ls with
   | nil =>
    have hsz : s.size = p + m.length := by
     have := congrArg List.length hseg
     rw [List.length_drop, size_list] at this
     simp at this
     omega
    simp only [List.length_cons, List.length_nil] at hk
    have hwl : IntKind.i64.wrap (((l.map insT).length : Int) + 1) = ((l.length + 1 : Nat) : Int) := by rw [List.length_map, wrap64 (by omega) (by omega)]; simp
    rw [L7_10_eq, RL7_10, decide_eq_false (by omega), cf, ct, hwl, decide_eq_true (by omega)]
   | cons m2 ls2 =>
    have hd2 : s.data.toList.drop (p + m.length + 1) = joinB (m2 :: ls2) := by
     have e1 : s.data.toList.drop (p + m.length) = 10 :: (m2 ++ ls2.flatMap fun m => 10 :: m) := by
      rw [← List.drop_drop, hseg, List.drop_left]
      rfl
     exact (at_list e1).2.2
    have hlt : p + m.length < s.size := by
     have e1 : s.data.toList.drop (p + m.length) = 10 :: (m2 ++ ls2.flatMap fun m => 10 :: m) := by
      rw [← List.drop_drop, hseg, List.drop_left]
      rfl
     exact (at_list e1).1
    refine ih (p + m.length + 1) (k + 1) (fun h => by omega) hd2 (by simp) (by omega) (by simp at hk ⊢; omega) (fun m hm => hno m (List.mem_cons_of_mem _ hm)) fun j m3 hj hpos => ?_
    obtain ⟨x, h1, h2⟩ := hwant (j + 1) m3 (by simpa using hj) (by omega)
    exact ⟨x, by rw [← h1]; congr 1; omega, h2⟩
  rw [L7_15_eq, RL7_15, hw1, decide_eq_false (by omega), cf, hwk]
  cases k with
  | zero =>
   have d : decide ((0 : Int) < ((0 : Nat) : Int)) = false := rfl
   rw [d, cf]
   exact next
  | succ k =>
   obtain ⟨x, h1, h2⟩ := hwant 0 m rfl (by omega)
   have h1 : l[k]? = some x := by rw [← h1]; congr 1
   have hlt := (List.getElem?_eq_some_iff.1 h1).1
   have hg : (l.map insT)[k]? = some (.agg [.int .i64 x.op, .int .i64 x.a, .int .i64 x.b, .int .i64 x.c, .int .i64 x.n]) := by rw [List.getElem?_map, h1]; rfl
   have hwm : IntKind.i64.wrap (((k + 1 : Nat) : Int) - 1) = (k : Int) := by rw [wrap64 (by omega) (by omega)]; omega
   have hr := reads15 x
   have hwx := writes16 x
   unfold insT at hr hwx
   have hrl : (readsL x).length ≤ 3 := by
    unfold readsL cond1
    cases decide ((shOf x.op).k0 = 2) <;> cases decide ((shOf x.op).k1 = 2) <;> cases decide ((shOf x.op).k2 = 2) <;> simp
   have hwr : IntKind.i64.wrap (((ints (readsL x)).length : Int) + 1) = (((readsL x).length + 1 : Nat) : Int) := by rw [List.length_map, wrap64 (by omega) (by omega)]; simp
   have n0 : decide ((0 : Int) ≤ (k : Int)) = true := decide_eq_true (by omega)
   rw [decide_eq_true (by omega), ct, decide_eq_false (by rw [List.length_map]; omega), cf, hwm, needC_true n0, Int.toNat_natCast, getT_at hg]
   rw [asA_agg, consT_cons, asI_int, consT_cons, asI_int, consT_cons, asI_int, consT_cons, asI_int, consT_cons, asI_int, endT_nil, hr, callK_some, asT_t, asL_list, endB_nil, hwx, callK_some, asTup_tup, consV_cons, asT_t, asI_int, consV_cons, asT_t, asB_bool, endV_nil, endB_nil, hwr]
   have fin : ∀ w : Int, ((cntP m : Nat) : Int) = w → J7_27 true s ((k + 1 : Nat) : Int) ((p + m.length : Nat) : Int) ((cntP m : Nat) : Int) w r a i z (l.map insT) = some (.t (.bool true), e0) := by
    intro w hw
    rw [J7_27_eq, RJ7_27, decide_eq_true hw, bNT, cf, hwk, hw1]
    exact next
   unfold wantR at h2
   cases hb : writesB x with
   | true =>
    rw [ct]
    refine fin _ ?_
    rw [h2, hb]
    rfl
   | false =>
    rw [cf]
    refine fin _ ?_
    rw [h2, hb, List.length_map]
    rfl
theorem lines_spec (x0 : T) (f0 : FitT codeTy true x0) : ∃ st, vr 7 0 [.t x0] ⟨[], []⟩ = some (.t (.bool true), st) := by
 obtain ⟨r, a, i, z, l, rfl, hmax, _, _, _⟩ := code_of f0
 refine ⟨e0, ?_⟩
 have hf := few13 r a i z l
 unfold cdT at hf ⊢
 rw [eq7, R7, live9, callK_some, asT_t, asB_bool, endB_nil, hf, callK_some, asT_t, asB_bool, endB_nil]
 by_cases h300 : l.length ≤ 300
 ·rw [decide_eq_true h300, bNT, cf]
  have ht := text21 r a i z l fun hc => by
   obtain ⟨w1, w2⟩ := codeW_wt (okb_of hc) h300
   exact joinOk_of (by rw [List.length_map]; omega) (by omega)
  unfold cdT at ht
  rw [ht, callK_some]
  cases hc : checkB r a i l with
  | false => rfl
  | true =>
   have ok := okb_of hc
   obtain ⟨w1, w2⟩ := codeW_wt ok h300
   have hj := join_zero (codeW_line ok) w2
   have hlen := join_len hj (by omega : _ ≤ 65536)
   rw [ct, asTup_tup, consV_cons, asT_t, asS_str, consV_cons, asT_t, asI_int, endV_nil, endB_nil, hj]
   have d : decide ((0 : Int) = 0) = true := rfl
   rw [d, bNT, cf]
   have hz : (⟨(joinE ((codeW r a i l).map tkOf)).1.toArray⟩ : ByteArray).size = (joinE ((codeW r a i l).map tkOf)).1.length := by simp [ByteArray.size]
   have hdl : (⟨(joinE ((codeW r a i l).map tkOf)).1.toArray⟩ : ByteArray).data.toList = joinB (lineB (headW r a i) :: l.map fun x => lineB (insW x)) := by
    rw [← text_lines ok, ← joinE_small hj]
   have hn : (l.length : Int) ≤ 4096 := by omega
   refine L10_lines _ (by omega) r a i z l h300 (lineB (headW r a i) :: l.map fun x => lineB (insW x)) 0 0 (fun _ => by simp) (by rw [List.drop_zero]; exact hdl) (by simp) (by omega) (by simp) (fun m hm => ?_) fun j m hj2 hpos => ?_
   ·rcases List.mem_cons.1 hm with rfl | hm
    ·exact line_no (headW_fine ok)
    ·obtain ⟨x, hx, rfl⟩ := List.mem_map.1 hm
     exact line_no (insW_fine ok.r0.2 ok.a0.2 hn (ok.may x hx))
   ·cases j with
    | zero => omega
    | succ j =>
     rw [List.getElem?_cons_succ, List.getElem?_map] at hj2
     cases hx : l[j]? with
     | none => rw [hx] at hj2; cases hj2
     | some x =>
      rw [hx] at hj2
      cases hj2
      exact ⟨x, by rw [← hx]; congr 1; omega, ins_regs ok.r0.2 ok.a0.2 hn (ok.may x (List.mem_of_getElem? hx))⟩
 ·rw [decide_eq_false h300, bNF, ct]
end Go.Proofs.Ytifkgdmiojnllaa.VM
end
