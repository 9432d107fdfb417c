/- Merged: Ua1 Ua2 Ua3 Ua4. Conditions: none. -/
import Derived.Test.YtifkgdmiojnllaaTx
set_option linter.all false
section
namespace Go.Proofs.Ytifkgdmiojnllaa.VM
set_option linter.unusedSectionVars false
set_option linter.unusedVariables false
set_option linter.unusedSimpArgs false
open Go AM
theorem shape_cases (op : Int) : ((shOf op).k0, (shOf op).k1, (shOf op).k2) ∈ [((0 : Int), (0 : Int), (0 : Int)), (1, 5, 0), (1, 2, 0), (1, 2, 2), (1, 3, 2), (3, 2, 2), (1, 3, 0), (3, 2, 0), (4, 0, 0), (2, 2, 4)] := by
 rcases sh_cases op with h | h
 ·rw [h.2]; simp [sh0]
 ·have h := h.2
  generalize shOf op = s at h ⊢
  simp only [shL, List.mem_cons, List.not_mem_nil, or_false] at h
  rcases h with rfl | rfl | rfl | rfl | rfl | rfl | rfl | rfl | rfl | rfl | rfl | rfl | rfl <;> simp
theorem shape_5 (op : Int) : (shOf op).k0 ≠ 5 ∧ (shOf op).k2 ≠ 5 ∧ ((shOf op).k1 = 5 → (shOf op).k2 = 0) := by
 have h := shape_cases op
 generalize (shOf op).k0 = a at h ⊢
 generalize (shOf op).k1 = b at h ⊢
 generalize (shOf op).k2 = c at h ⊢
 simp only [List.mem_cons, Prod.mk.injEq, List.not_mem_nil, or_false] at h
 omega
theorem digL_pos {n : Int} (h : 0 ≤ n) : digL n = digs n.toNat := by
 unfold digL
 rw [decide_eq_false (by omega), cf, List.nil_append]
 congr 1
 omega
theorem number_digL {n : Int} (h : 0 ≤ n) (h2 : n < 1000000000000000000) : number (digL n) = some n := by
 rw [digL_pos h, number_digs, if_pos (by omega)]
 congr 1
 omega
theorem digL_len3 {n : Int} (h : 0 ≤ n) (h2 : n < 10000) : (digL n).length ≤ 4 := by
 rw [digL_pos h]
 unfold digs
 rw [List.length_reverse]
 exact revD_len 3 _ (by omega)
theorem digL_len18 {n : Int} (h : 0 ≤ n) (h2 : n < 1000000000000000000) : (digL n).length ≤ 18 := by
 rw [digL_pos h]
 unfold digs
 rw [List.length_reverse]
 exact revD_len 17 _ (by omega)
theorem digs_letters (n : Nat) : (digs n).all (fun b => isL b || isD b) = true := by
 have := digs_all n
 rw [List.all_eq_true] at this ⊢
 intro x hx
 rw [this x hx, bOT]
def Fine (x : T) : Prop := IsTok x ∧ tkK x ≠ 4 ∧ (tkOf x).2 = 0
theorem fine_of {l : List UInt8} {k n : Int} (h : tok l = some (k, n)) : Fine (tokT ⟨⟨l⟩⟩ k n) := by
 refine ⟨⟨_, _, _, rfl⟩, (tok_kinds h).1, ?_⟩
 show chkE (k, ⟨⟨l⟩⟩, n) = 0
 unfold chkE
 have : decide (tok l = some (k, n)) = true := decide_eq_true h
 show (bif (decide (k = 4) && _) || decide (tok l = some (k, n)) then (0 : Int) else 1) = 0
 rw [this, Bool.or_true]
 rfl
theorem tok_word {l : List UInt8} (h : isWord l = true) : tok l = some (1, 0) := by
 unfold tok
 have : number l = none := by
  cases l with
  | nil => cases h
  | cons b t => exact number_no (by
    have := word_first h
    exact isL_isD this)
 rw [this, h]
 rfl
theorem tok_num {n : Int} (h : 0 ≤ n) (h2 : n < 1000000000000000000) : tok (digL n) = some (2, n) := by
 unfold tok
 rw [number_digL h h2]
theorem word_pre (c : UInt8) (hc : isL c = true) {n : Int} (h : 0 ≤ n) (h2 : n < 10000) : isWord (c :: digL n) = true := by
 have hl := digL_len3 h h2
 have ha := digs_letters n.toNat
 rw [← digL_pos h] at ha
 unfold isWord
 simp only [List.length_cons, List.all_cons, hc, Bool.true_or, Bool.true_and, Bool.and_true, Bool.and_eq_true, decide_eq_true_eq]
 first
  | exact ⟨by omega, ha⟩
  | (simp [hc, ha]; omega)
theorem numT_fine {n : Int} (h : -1000000000000000000 < n) (h2 : n < 1000000000000000000) : ∀ x ∈ numT n, Fine x := by
 intro x hx
 unfold numT at hx
 by_cases hn : n < 0
 ·rw [decide_eq_true hn, ct] at hx
  simp only [List.mem_cons, List.not_mem_nil, or_false] at hx
  rcases hx with rfl | rfl
  ·exact fine_of (l := [45]) rfl
  ·exact fine_of (tok_num (by omega) (by omega))
 ·rw [decide_eq_false hn, cf] at hx
  simp only [List.mem_cons, List.not_mem_nil, or_false] at hx
  rw [hx]
  exact fine_of (tok_num (by omega) h2)
theorem fldW_fine {k f n : Int} (h1 : 0 ≤ f ∧ f < 10000) (h2 : -1000000000000000000 < n ∧ n < 1000000000000000000) : ∀ x ∈ fldW k f n, Fine x := by
 intro x hx
 unfold fldW at hx
 split at hx
 ·rw [List.mem_singleton] at hx
  rw [hx]
  exact fine_of (tok_word (word_pre 114 (by decide) h1.1 h1.2))
 ·split at hx
  ·rw [List.mem_singleton] at hx
   rw [hx]
   exact fine_of (tok_word (word_pre 97 (by decide) h1.1 h1.2))
  ·split at hx
   ·exact numT_fine (by omega) (by omega) x hx
   ·split at hx
    ·exact numT_fine h2.1 h2.2 x hx
    ·cases hx
theorem word_shape {op : Int} (h : isOp op = true) : isWord (shOf op).w = true ∧ opOf (shOf op).w = op := by
 have hb : 0 ≤ op ∧ op < 13 := by
  unfold isOp at h
  simp only [Bool.and_eq_true, decide_eq_true_eq] at h
  exact h
 obtain ⟨n, rfl⟩ : ∃ n : Nat, op = n := ⟨op.toNat, by omega⟩
 have hn : n < 13 := by omega
 have key : ∀ m : Fin 13, isWord (shOf ((m.val : Nat) : Int)).w = true ∧ opOf (shOf ((m.val : Nat) : Int)).w = ((m.val : Nat) : Int) := by decide +kernel
 exact key ⟨n, hn⟩
theorem may_all {r a n : Int} {x : Ins} (hr : r ≤ 128) (ha : a ≤ 128) (hn : n ≤ 4096) (h : mayB r a n x = true) :
  isOp x.op = true ∧ (0 ≤ x.a ∧ x.a < 10000) ∧ (0 ≤ x.b ∧ x.b < 10000) ∧ (0 ≤ x.c ∧ x.c < 10000) ∧ (-1000000000000000000 < x.n ∧ x.n < 1000000000000000000) := by
 obtain ⟨h0, ⟨h1, h2⟩, ⟨h3, h4⟩, ⟨h5, h6⟩, h7⟩ := may_fld h
 have l0 := lim_le (k := (shOf x.op).k0) hr ha hn
 have l1 := lim_le (k := (shOf x.op).k1) hr ha hn
 have l2 := lim_le (k := (shOf x.op).k2) hr ha hn
 exact ⟨h0, ⟨h1, by omega⟩, ⟨h3, by omega⟩, ⟨h5, by omega⟩, by rcases h7 with h | h <;> omega, by rcases h7 with h | h <;> omega⟩
theorem insW_fine {r a n : Int} {x : Ins} (hr : r ≤ 128) (ha : a ≤ 128) (hn : n ≤ 4096) (h : mayB r a n x = true) : ∀ y ∈ insW x, Fine y := by
 obtain ⟨h0, h1, h2, h3, h4⟩ := may_all hr ha hn h
 intro y hy
 unfold insW at hy
 rcases List.mem_cons.1 hy with rfl | hy
 ·exact fine_of (tok_word (word_shape h0).1)
 ·rcases List.mem_append.1 hy with hy | hy
  ·exact fldW_fine h1 h4 y hy
  ·rcases List.mem_append.1 hy with hy | hy
   ·exact fldW_fine h2 h4 y hy
   ·exact fldW_fine h3 h4 y hy
def headW (r a i : Int) : List T := tokT ⟨#[99, 111, 100, 101]⟩ 1 0 :: (numT r ++ (numT a ++ numT i))
theorem headW_fine {r a i : Int} {l : List Ins} (h : Okb r a i l) : ∀ y ∈ headW r a i, Fine y := by
 intro y hy
 obtain ⟨⟨_, _⟩, ⟨_, _⟩, ⟨_, _⟩, _, _⟩ := h
 unfold headW at hy
 rcases List.mem_cons.1 hy with rfl | hy
 ·exact fine_of (l := [99, 111, 100, 101]) rfl
 ·rcases List.mem_append.1 hy with hy | hy
  ·exact numT_fine (by omega) (by omega) y hy
  ·rcases List.mem_append.1 hy with hy | hy
   ·exact numT_fine (by omega) (by omega) y hy
   ·exact numT_fine (by omega) (by omega) y hy
theorem codeW_eq (r a i : Int) (l : List Ins) : codeW r a i l = headW r a i ++ l.flatMap fun x => lineT :: insW x := rfl
theorem jline_fine {l : List T} (h : ∀ x ∈ l, Fine x) (hn : l ≠ []) (b : Bool) : jline b (l.map tkOf) = some false := by
 induction l generalizing b with
 | nil => exact absurd rfl hn
 | cons x l ih =>
  obtain ⟨⟨s, k, v, rfl⟩, h4, h0⟩ := h x (List.mem_cons_self ..)
  have h4 : k ≠ 4 := h4
  have h5 : (tkOf (tokT s k v)).1.1 ≠ 4 := h4
  rw [List.map_cons, jline, if_pos ⟨h0, fun e => h5 e.2⟩, decide_eq_false h5]
  by_cases hl : l = []
  ·rw [hl]; rfl
  ·exact ih (fun y hy => h y (List.mem_cons_of_mem _ hy)) hl false
theorem jline_lines : ∀ (ls : List (List T)), (∀ l ∈ ls, l ≠ [] ∧ ∀ x ∈ l, Fine x) → jline false ((ls.flatMap fun l => lineT :: l).map tkOf) = some false
 | [], _ => rfl
 | l :: ls, h => by
  obtain ⟨h1, h2⟩ := h l (List.mem_cons_self ..)
  rw [List.flatMap_cons, List.map_append, jline_app]
  have : jline false ((lineT :: l).map tkOf) = some false := by
   rw [List.map_cons, jline, if_pos ⟨rfl, fun e => by cases e.1⟩]
   exact jline_fine h2 h1 _
  rw [this]
  exact jline_lines ls fun m hm => h m (List.mem_cons_of_mem _ hm)
theorem flatMap_map {A : Type} (f : A → List T) : ∀ l : List A, (l.flatMap fun x => lineT :: f x) = (l.map f).flatMap fun m => lineT :: m
 | [] => rfl
 | x :: l => by rw [List.flatMap_cons, List.map_cons, List.flatMap_cons, flatMap_map f l]
theorem insW_ne (x : Ins) : insW x ≠ [] := by unfold insW; simp
theorem codeW_line {r a i : Int} {l : List Ins} (h : Okb r a i l) : jline true ((codeW r a i l).map tkOf) = some false := by
 rw [codeW_eq, List.map_append, jline_app, jline_fine (headW_fine h) (by unfold headW; simp) true, flatMap_map]
 refine jline_lines _ fun m hm => ?_
 obtain ⟨x, hx, rfl⟩ := List.mem_map.1 hm
 exact ⟨insW_ne x, insW_fine h.r0.2 h.a0.2 (by have := h.len.2; omega) (h.may x hx)⟩
theorem splitL_fine : ∀ {l : List T}, (∀ x ∈ l, Fine x) → ∀ m : List T, splitL (l ++ m) = (match splitL m with | p :: q => (l ++ p) :: q | [] => [l])
 | [], _, m => by
  have := splitL_ne m
  cases h : splitL m with
  | nil => exact absurd h this
  | cons p q => rw [List.nil_append, h]; rfl
 | x :: l, h, m => by
  have hx : isLn x = false := decide_eq_false (h x (List.mem_cons_self ..)).2.1
  rw [List.cons_append, splitL_cons, hx, cf, splitL_fine (fun y hy => h y (List.mem_cons_of_mem _ hy)) m]
  cases splitL m <;> rfl
theorem splitL_lines : ∀ (ls : List (List T)) (h : List T), (∀ x ∈ h, Fine x) → (∀ l ∈ ls, ∀ x ∈ l, Fine x) → splitL (h ++ ls.flatMap fun l => lineT :: l) = h :: ls
 | [], h, hh, _ => by
  rw [List.flatMap_nil, splitL_fine hh]
  show (h ++ []) :: [] = _
  rw [List.append_nil]
 | l :: ls, h, hh, hl => by
  have hln : isLn lineT = true := rfl
  rw [List.flatMap_cons, splitL_fine hh, List.cons_append, splitL_cons, hln, ct, splitL_lines ls l (hl l (List.mem_cons_self ..)) fun m hm => hl m (List.mem_cons_of_mem _ hm)]
  simp
theorem splitL_code {r a i : Int} {l : List Ins} (h : Okb r a i l) : splitL (codeW r a i l) = headW r a i :: l.map insW := by
 rw [codeW_eq, flatMap_map, splitL_lines _ _ (headW_fine h) fun m hm => ?_]
 obtain ⟨x, hx, rfl⟩ := List.mem_map.1 hm
 exact insW_fine h.r0.2 h.a0.2 (by have := h.len.2; omega) (h.may x hx)
/-! ### reading -/
theorem numT_pos {n : Int} (h : 0 ≤ n) : numT n = [tokT ⟨⟨digL n⟩⟩ 2 n] := by unfold numT; rw [decide_eq_false (by omega), cf]
theorem take_tok (k : Int) (s : ByteArray) (n : Int) (r : List T) : takeR k (tokT s k n :: r) false = (tokT s k n, r, false) := by
 rw [takeR_cons]
 have : decide (tkK (tokT s k n) = k) = true := decide_eq_true rfl
 rw [this, ct]
theorem behind_tok (c : UInt8) {f : Int} (h : 0 ≤ f ∧ f < 10000) (r : List T) : behindR c (tokT ⟨⟨c :: digL f⟩⟩ 1 0 :: r) false = (f, r, false) := by
 unfold behindR
 rw [take_tok]
 have e : (tkS (tokT ⟨⟨c :: digL f⟩⟩ 1 0)).data.toList = c :: digL f := rfl
 rw [e]
 dsimp only
 rw [decide_eq_true rfl, ct, number_digL h.1 (by omega)]
theorem digL_not (n : Int) (h : 0 ≤ n) : digL n ≠ [45] := by
 rw [digL_pos h]
 intro e
 have := digs_all n.toNat
 rw [e] at this
 cases this
theorem signed_tok {n : Int} (h : -1000000000000000000 < n ∧ n < 1000000000000000000) (r : List T) : signedR (numT n ++ r) false = (n, r, false) := by
 unfold numT
 by_cases hn : n < 0
 ·rw [decide_eq_true hn, ct]
  unfold signedR
  rw [List.cons_append, List.cons_append, List.nil_append]
  dsimp only
  have e1 : decide ((tkS (tokT ⟨#[45]⟩ 3 0)).data.toList = [45]) = true := decide_eq_true rfl
  have e2 : tkN (tokT ⟨⟨digL (0 - n)⟩⟩ 2 (0 - n)) = 0 - n := rfl
  rw [e1, bNT, cf, take_tok]
  dsimp only
  rw [take_tok]
  dsimp only
  rw [e2, decide_eq_false (by omega), cf, wrap64 (by omega) (by omega)]
  congr 1
  omega
 ·rw [decide_eq_false hn, cf]
  unfold signedR
  rw [List.cons_append, List.nil_append]
  dsimp only
  have e1 : decide ((tkS (tokT ⟨⟨digL n⟩⟩ 2 n)).data.toList = [45]) = false := decide_eq_false (digL_not n (by omega))
  rw [e1, bNF, ct, take_tok]
  rfl
theorem fld_tok {k f n n' : Int} (hf : 0 ≤ f ∧ f < 10000) (hn : -1000000000000000000 < n ∧ n < 1000000000000000000) (h0 : ¬ (k = 1 ∨ k = 2) → k ≠ 3 → k ≠ 4 → f = 0) (hk : k ≠ 5 → n' = n) (r : List T) : fldR k n' (fldW k f n ++ r) false = (f, n, r, false) := by
 by_cases h1 : k = 1
 ·subst h1; rw [fldW_1, fld_1, List.cons_append, List.nil_append, behind_tok 114 hf, hk (by decide)]
 by_cases h2 : k = 2
 ·subst h2; rw [fldW_2, fld_2, List.cons_append, List.nil_append, behind_tok 114 hf, hk (by decide)]
 by_cases h3 : k = 3
 ·subst h3; rw [fldW_3, fld_3, List.cons_append, List.nil_append, behind_tok 97 hf, hk (by decide)]
 by_cases h4 : k = 4
 ·subst h4
  rw [fldW_4, fld_4, numT_pos hf.1, List.cons_append, List.nil_append, take_tok, hk (by decide)]
  rfl
 by_cases h5 : k = 5
 ·subst h5; rw [fldW_5, fld_5, signed_tok hn, h0 (by decide) h3 h4]
 ·rw [fldW_o h1 h2 h3 h4 h5, fld_o h1 h2 h3 h4 h5, h0 (by omega) h3 h4, hk h5]
  rfl
theorem lim_one {r a n k : Int} (h1 : ¬ (k = 1 ∨ k = 2)) (h3 : k ≠ 3) (h4 : k ≠ 4) : lim r a n k = 1 := by unfold lim; rw [if_neg h1, if_neg h3, if_neg h4]
theorem ins_tok {r a n : Int} {x : Ins} (hr : r ≤ 128) (ha : a ≤ 128) (hn : n ≤ 4096) (h : mayB r a n x = true) : insR (insW x) false = (x, [], false) := by
 obtain ⟨h0, h1, h2, h3, h4⟩ := may_all hr ha hn h
 obtain ⟨_, g1, g2, g3, g4⟩ := may_fld h
 obtain ⟨s1, s2, s3⟩ := shape_5 x.op
 unfold insR insW
 rw [take_tok]
 dsimp only
 have e : (tkS (tokT ⟨⟨(shOf x.op).w⟩⟩ 1 0)).data.toList = (shOf x.op).w := rfl
 rw [e, (word_shape h0).2, h0, ct]
 have z : ∀ {k f : Int}, 0 ≤ f ∧ f < lim r a n k → ¬ (k = 1 ∨ k = 2) → k ≠ 3 → k ≠ 4 → f = 0 := fun hf q1 q3 q4 => by
  rw [lim_one q1 q3 q4] at hf
  omega
 by_cases hk : (shOf x.op).k1 = 5
 ·have t0 := fld_tok (k := (shOf x.op).k0) (n := 0) (n' := 0) h1 (by omega) (z g1) (fun _ => rfl) (fldW (shOf x.op).k1 x.b x.n ++ fldW (shOf x.op).k2 x.c x.n)
  have e0 : fldW (shOf x.op).k0 x.a 0 = fldW (shOf x.op).k0 x.a x.n := by unfold fldW; rw [if_neg s1, if_neg s1]
  rw [e0] at t0
  rw [t0]
  dsimp only
  rw [fld_tok (n := x.n) h2 h4 (z g2) (fun h => absurd hk h)]
  dsimp only
  have t2 := fld_tok (k := (shOf x.op).k2) (n' := x.n) h3 h4 (z g3) (fun _ => rfl) []
  rw [List.append_nil] at t2
  rw [t2]
 ·have hx : x.n = 0 := by rcases g4 with h | h; exact absurd h.1 hk; exact h.2
  rw [hx]
  rw [fld_tok (n := 0) h1 (by omega) (z g1) (fun _ => rfl)]
  dsimp only
  rw [fld_tok (n := 0) h2 (by omega) (z g2) (fun _ => rfl)]
  dsimp only
  have t2 := fld_tok (k := (shOf x.op).k2) (n := 0) (n' := 0) h3 (by omega) (z g3) (fun _ => rfl) []
  rw [List.append_nil] at t2
  rw [t2]
  dsimp only
  rw [← hx]
theorem head_tok {r a i : Int} {l : List Ins} (h : Okb r a i l) : headR (headW r a i) = ((r, a, i), [], false) := by
 obtain ⟨h1, h2, h3, _, _⟩ := h
 unfold headR headW
 rw [numT_pos h1.1, numT_pos h2.1, numT_pos h3.1]
 rw [take_tok]
 dsimp only
 have e : decide ((tkS (tokT ⟨#[99, 111, 100, 101]⟩ 1 0)).data.toList = [99, 111, 100, 101]) = true := decide_eq_true rfl
 rw [e, bNT, List.cons_append, List.cons_append, List.nil_append, take_tok]
 dsimp only
 rw [List.nil_append, take_tok]
 dsimp only
 rw [take_tok]
 rfl
theorem go_code (r a i : Int) : ∀ (l acc : List Ins) (k : Nat), (∀ x ∈ l, insR (insW x) false = (x, [], false)) → goP (l.map insW) (k + 1) r a i acc = .ok r a i (acc ++ l)
 | [], acc, k, _ => by rw [List.map_nil, goP, List.append_nil]
 | x :: l, acc, k, h => by
  rw [List.map_cons, goP, h x (List.mem_cons_self ..)]
  dsimp only
  have e : (false || !([] : List T).isEmpty) = false := rfl
  rw [e, cf, go_code r a i l (acc ++ [x]) (k + 1) fun y hy => h y (List.mem_cons_of_mem _ hy), List.append_assoc]
  rfl
theorem go_written {r a i : Int} {l : List Ins} (h : Okb r a i l) : goP (splitL (codeW r a i l)) 0 0 0 0 [] = .ok r a i l := by
 rw [splitL_code h, goP, head_tok h]
 dsimp only
 have e : (false || !([] : List T).isEmpty) = false := rfl
 rw [e, cf]
 have := go_code r a i l [] 0 fun x hx => ins_tok h.r0.2 h.a0.2 (by have := h.len.2; omega) (h.may x hx)
 rw [List.nil_append] at this
 exact this
end Go.Proofs.Ytifkgdmiojnllaa.VM
end

section
namespace Go.Proofs.Ytifkgdmiojnllaa.VM
set_option linter.unusedSectionVars false
set_option linter.unusedVariables false
set_option linter.unusedSimpArgs false
open Go AM
theorem numL_snoc (l : List UInt8) (b : UInt8) (n : Int) : numL (l ++ [b]) n = (numL l n).bind fun m => numL [b] m := numL_app l [b] n
theorem digit_of {b : UInt8} (h : isD b = true) : ∃ d, d < 10 ∧ b = UInt8.ofNat (48 + d) := by
 unfold isD at h
 simp only [Bool.and_eq_true, decide_eq_true_eq] at h
 refine ⟨b.toNat - 48, by omega, ?_⟩
 have : 48 + (b.toNat - 48) = b.toNat := by omega
 rw [this]
 simp
theorem numL_digs_inv : ∀ (k : Nat) (l : List UInt8), l.length = k → l.length ≤ 18 → l.all isD = true → l ≠ [] → (1 < l.length → ∀ b t, l = b :: t → b ≠ 48) → ∃ u : Nat, u < 10 ^ l.length ∧ l = digs u ∧ numL l 0 = some (u : Int) ∧ (l ≠ [48] → 0 < u)
 | 0, l, hk, _, _, hne, _ => absurd (List.length_eq_zero_iff.1 hk) hne
 | k + 1, l, hk, h18, ha, hne, h0 => by
  obtain ⟨m, b, rfl⟩ : ∃ m b, l = m ++ [b] := ⟨l.dropLast, l.getLast hne, (List.dropLast_concat_getLast hne).symm⟩
  rw [List.all_append] at ha
  simp only [Bool.and_eq_true, List.all_cons, List.all_nil, Bool.and_true] at ha
  obtain ⟨ha1, hb⟩ := ha
  obtain ⟨d, hd, rfl⟩ := digit_of hb
  rw [List.length_append] at hk h18
  simp only [List.length_cons, List.length_nil] at hk h18
  by_cases hm : m = []
  ·subst hm
   refine ⟨d, ?_, ?_, ?_, ?_⟩
   ·simp; omega
   ·rw [digs_lt hd]; rfl
   ·show numL [UInt8.ofNat (48 + d)] 0 = _
    unfold numL
    rw [(digit_byte hd).1]
    simp only [cond_true]
    unfold numL
    have this : dig ((0 : Nat) : Int) (UInt8.ofNat (48 + d)) = ((10 * 0 + d : Nat) : Int) := dig_ok (by omega) hd
    rw [Nat.mul_zero, Nat.zero_add] at this
    exact congrArg some this
   ·intro h
    rcases Nat.eq_zero_or_pos d with e | e
    ·subst e; exact absurd rfl h
    ·exact e
  ·obtain ⟨u, hu1, hu2, hu3, hu4⟩ := numL_digs_inv k m (by omega) (by omega) ha1 hm (fun h1 b t e => h0 (by simp; omega) b (t ++ [UInt8.ofNat (48 + d)]) (by rw [e]; rfl))
   have hm48 : m ≠ [48] := fun e => by
    have := h0 (by rw [e]; simp) 48 [UInt8.ofNat (48 + d)] (by rw [e]; rfl)
    exact this rfl
   have hu0 := hu4 hm48
   have hu18 : u < 100000000000000000 := by
    have : 10 ^ m.length ≤ 10 ^ 17 := Nat.pow_le_pow_right (by omega) (by omega)
    omega
   refine ⟨10 * u + d, ?_, ?_, ?_, fun _ => by omega⟩
   ·rw [List.length_append]
    show 10 * u + d < 10 ^ (m.length + 1)
    rw [Nat.pow_succ]
    omega
   ·rw [digs_ge (by omega : ¬ 10 * u + d < 10)]
    have e1 : (10 * u + d) / 10 = u := by omega
    have e2 : (10 * u + d) % 10 = d := by omega
    rw [e1, e2, ← hu2]
   ·rw [numL_snoc, hu3]
    show numL [UInt8.ofNat (48 + d)] (u : Int) = _
    unfold numL
    rw [(digit_byte hd).1]
    simp only [cond_true]
    unfold numL
    rw [dig_ok hu18 hd]
theorem number_inv {l : List UInt8} {n : Int} (h : number l = some n) : 0 ≤ n ∧ n < 1000000000000000000 ∧ l = digL n := by
 unfold number at h
 cases l with
 | nil => cases h
 | cons b t =>
  dsimp only at h
  by_cases h1 : 18 < (b :: t).length
  ·rw [decide_eq_true h1] at h; cases h
  rw [decide_eq_false h1, cf] at h
  by_cases h2 : 1 < (b :: t).length ∧ b = 48
  ·rw [decide_eq_true h2.1, decide_eq_true h2.2] at h; cases h
  have e : (decide (1 < (b :: t).length) && decide (b = 48)) = false := by
   rw [Bool.and_eq_false_iff]
   by_cases h3 : 1 < (b :: t).length
   ·exact .inr (decide_eq_false fun e => h2 ⟨h3, e⟩)
   ·exact .inl (decide_eq_false h3)
  rw [e, cf] at h
  obtain ⟨u, h3, h4, h5, _⟩ := numL_digs_inv _ (b :: t) rfl (by omega) (numL_all _ _ _ h) (by simp) (fun h1 c s e2 e3 => h2 ⟨h1, by cases e2; exact e3⟩)
  rw [h5] at h
  cases h
  have : 10 ^ (b :: t).length ≤ 10 ^ 18 := Nat.pow_le_pow_right (by omega) (by omega)
  refine ⟨by omega, by omega, ?_⟩
  rw [digL_pos (by omega)]
  simpa using h4
theorem fine_tok {x : T} (h : Fine x) : ∃ s k n, x = tokT s k n ∧ tok s.data.toList = some (k, n) := by
 obtain ⟨⟨s, k, n, rfl⟩, h4, h0⟩ := h
 refine ⟨s, k, n, rfl, ?_⟩
 have h4 : k ≠ 4 := h4
 have h0 : chkE (k, s, n) = 0 := h0
 unfold chkE at h0
 dsimp only at h0
 rw [decide_eq_false h4] at h0
 simp only [Bool.false_and, Bool.false_or] at h0
 cases hd : decide (tok s.data.toList = some (k, n)) with
 | true => exact of_decide_eq_true hd
 | false => rw [hd] at h0; cases h0
theorem tok_1 {l : List UInt8} {n : Int} (h : tok l = some (1, n)) : n = 0 := by
 unfold tok at h
 cases hn : number l with
 | some m => rw [hn] at h; cases h
 | none =>
  rw [hn] at h
  cases hw : isWord l with
  | true => rw [hw] at h; cases h; rfl
  | false => rw [hw] at h; cases hs : isSign l <;> rw [hs] at h <;> cases h
theorem tok_2 {l : List UInt8} {n : Int} (h : tok l = some (2, n)) : number l = some n := by
 unfold tok at h
 cases hn : number l with
 | some m => rw [hn] at h; cases h; rfl
 | none =>
  rw [hn] at h
  cases hw : isWord l with
  | true => rw [hw] at h; cases h
  | false => rw [hw] at h; cases hs : isSign l <;> rw [hs] at h <;> cases h
theorem tok_3 {l : List UInt8} {n : Int} (h : tok l = some (3, n)) : n = 0 := by
 unfold tok at h
 cases hn : number l with
 | some m => rw [hn] at h; cases h
 | none =>
  rw [hn] at h
  cases hw : isWord l with
  | true => rw [hw] at h; cases h
  | false => rw [hw] at h; cases hs : isSign l <;> rw [hs] at h <;> cases h; rfl
theorem mk_bytes {s : ByteArray} {l : List UInt8} (h : s.data.toList = l) : s = ⟨⟨l⟩⟩ := by
 obtain ⟨⟨x⟩⟩ := s
 have : x = l := h
 rw [this]
theorem take_inv {k : Int} {l r : List T} {b : Bool} {x : T} (h : takeR k l b = (x, r, false)) : b = false ∧ l = x :: r ∧ tkK x = k := by
 unfold takeR at h
 cases b with
 | true => cases h
 | false =>
  rw [cf] at h
  cases l with
  | nil => cases h
  | cons y t =>
   dsimp only at h
   cases hd : decide (tkK y = k) with
   | false => rw [hd] at h; cases h
   | true =>
    rw [hd, ct] at h
    cases h
    exact ⟨rfl, rfl, of_decide_eq_true hd⟩
theorem take_num {l r : List T} {b : Bool} {x : T} (h : takeR 2 l b = (x, r, false)) (hl : ∀ y ∈ l, Fine y) : b = false ∧ 0 ≤ tkN x ∧ tkN x < 1000000000000000000 ∧ x = tokT ⟨⟨digL (tkN x)⟩⟩ 2 (tkN x) ∧ l = x :: r := by
 obtain ⟨h1, h2, h3⟩ := take_inv h
 obtain ⟨s, k, n, rfl, ht⟩ := fine_tok (hl x (by rw [h2]; exact List.mem_cons_self ..))
 have h3 : k = 2 := h3
 subst h3
 obtain ⟨g1, g2, g3⟩ := number_inv (tok_2 ht)
 have e : tkN (tokT s 2 n) = n := rfl
 rw [e]
 exact ⟨h1, g1, g2, by rw [mk_bytes g3], h2⟩
theorem behind_inv {c : UInt8} {l r : List T} {b : Bool} {f : Int} (h : behindR c l b = (f, r, false)) (hl : ∀ y ∈ l, Fine y) : b = false ∧ 0 ≤ f ∧ l = tokT ⟨⟨c :: digL f⟩⟩ 1 0 :: r := by
 unfold behindR at h
 generalize hq : takeR 1 l b = q at h
 obtain ⟨x, r', b'⟩ := q
 dsimp only at h
 split at h
 ·cases h
 ·rename_i d t hs
  cases hd : decide (d = c) with
  | false => rw [hd] at h; cases h
  | true =>
   rw [hd, ct] at h
   have hdc := of_decide_eq_true hd
   cases hn : number t with
   | none => rw [hn] at h; cases h
   | some m =>
    rw [hn] at h
    cases h
    obtain ⟨h1, h2, h3⟩ := take_inv hq
    obtain ⟨s, k, n, rfl, ht⟩ := fine_tok (hl x (by rw [h2]; exact List.mem_cons_self ..))
    have h3 : k = 1 := h3
    subst h3
    have hn0 := tok_1 ht
    subst hn0
    obtain ⟨g1, g2, g3⟩ := number_inv hn
    have hs : s.data.toList = d :: t := hs
    rw [hdc, g3] at hs
    exact ⟨h1, g1, by rw [h2, mk_bytes hs]⟩
theorem signed_inv {l r : List T} {b : Bool} {n : Int} (h : signedR l b = (n, r, false)) (hl : ∀ y ∈ l, Fine y) : b = false ∧ l = numT n ++ r := by
 unfold signedR at h
 cases l with
 | nil =>
  dsimp only at h
  cases b <;> cases h
 | cons x t =>
  dsimp only at h
  cases hd : decide ((tkS x).data.toList = [45]) with
  | false =>
   rw [hd, bNF, ct] at h
   generalize hq : takeR 2 (x :: t) b = q at h
   obtain ⟨y, r', b'⟩ := q
   cases h
   obtain ⟨h1, h2, h3, h4, h5⟩ := take_num hq hl
   refine ⟨h1, ?_⟩
   rw [h5, numT_pos h2, List.cons_append, List.nil_append, ← h4]
  | true =>
   rw [hd, bNT, cf] at h
   generalize hq : takeR 3 (x :: t) b = q at h
   obtain ⟨y, r', b'⟩ := q
   dsimp only at h
   generalize hq2 : takeR 2 r' b' = q2 at h
   obtain ⟨y2, r2, b2⟩ := q2
   dsimp only at h
   cases h0 : decide (tkN y2 = 0) with
   | true => rw [h0] at h; cases h
   | false =>
    rw [h0, cf] at h
    have h0 := of_decide_eq_false h0
    have e2 : b2 = false := by cases h; rfl
    subst e2
    have hb' : b' = false := by
     cases b' with
     | false => rfl
     | true => cases hq2
    subst hb'
    obtain ⟨h1, h2, h3⟩ := take_inv hq
    cases h2
    obtain ⟨_, g2, g3, g4, g5⟩ := take_num hq2 (fun z hz => hl z (List.mem_cons_of_mem _ hz))
    obtain ⟨s, k, m, rfl, ht⟩ := fine_tok (hl x (List.mem_cons_self ..))
    have h3 : k = 3 := h3
    subst h3
    have hm0 := tok_3 ht
    subst hm0
    have hs : s.data.toList = [45] := of_decide_eq_true hd
    have hw : IntKind.i64.wrap (0 - tkN y2) = 0 - tkN y2 := wrap64 (by omega) (by omega)
    rw [hw] at h
    cases h
    refine ⟨h1, ?_⟩
    unfold numT
    have e : 0 - (0 - tkN y2) = tkN y2 := by omega
    rw [decide_eq_true (by omega), ct, e, g5, mk_bytes hs, List.cons_append, List.cons_append, List.nil_append]
    rw [← g4]
theorem fine_app {a b : List T} (h : ∀ y ∈ a ++ b, Fine y) : ∀ y ∈ b, Fine y := fun y hy => h y (List.mem_append_right _ hy)
theorem fld_inv {k n f n' : Int} {l r : List T} {b : Bool} (h : fldR k n l b = (f, n', r, false)) (hl : ∀ y ∈ l, Fine y) : b = false ∧ l = fldW k f n' ++ r ∧ (k ≠ 5 → n' = n) ∧ (¬ (k = 1 ∨ k = 2) → k ≠ 3 → k ≠ 4 → f = 0) := by
 by_cases h1 : k = 1
 ·subst h1
  rw [fld_1] at h
  generalize hq : behindR 114 l b = q at h
  obtain ⟨v, r', b'⟩ := q
  cases h
  obtain ⟨g1, g2, g3⟩ := behind_inv hq hl
  exact ⟨g1, by rw [fldW_1]; exact g3, fun _ => rfl, fun h => absurd (.inl rfl) h⟩
 by_cases h2 : k = 2
 ·subst h2
  rw [fld_2] at h
  generalize hq : behindR 114 l b = q at h
  obtain ⟨v, r', b'⟩ := q
  cases h
  obtain ⟨g1, g2, g3⟩ := behind_inv hq hl
  exact ⟨g1, by rw [fldW_2]; exact g3, fun _ => rfl, fun h => absurd (.inr rfl) h⟩
 by_cases h3 : k = 3
 ·subst h3
  rw [fld_3] at h
  generalize hq : behindR 97 l b = q at h
  obtain ⟨v, r', b'⟩ := q
  cases h
  obtain ⟨g1, g2, g3⟩ := behind_inv hq hl
  exact ⟨g1, by rw [fldW_3]; exact g3, fun _ => rfl, fun _ h => absurd rfl h⟩
 by_cases h4 : k = 4
 ·subst h4
  rw [fld_4] at h
  generalize hq : takeR 2 l b = q at h
  obtain ⟨v, r', b'⟩ := q
  cases h
  obtain ⟨g1, g2, g3, g4, g5⟩ := take_num hq hl
  refine ⟨g1, ?_, fun _ => rfl, fun _ _ h => absurd rfl h⟩
  rw [fldW_4, numT_pos g2, List.cons_append, List.nil_append, ← g4]
  exact g5
 by_cases h5 : k = 5
 ·subst h5
  rw [fld_5] at h
  generalize hq : signedR l b = q at h
  obtain ⟨v, r', b'⟩ := q
  cases h
  obtain ⟨g1, g2⟩ := signed_inv hq hl
  exact ⟨g1, by rw [fldW_5]; exact g2, fun h => absurd rfl h, fun _ _ _ => rfl⟩
 ·rw [fld_o h1 h2 h3 h4 h5] at h
  cases h
  exact ⟨rfl, by rw [fldW_o h1 h2 h3 h4 h5]; rfl, fun _ => rfl, fun _ _ _ => rfl⟩
theorem fldW_n {k : Int} (h : k ≠ 5) (f n n' : Int) : fldW k f n = fldW k f n' := by unfold fldW; rw [if_neg h, if_neg h]
theorem opIx_word : ∀ (l : List Sh) (i : Nat) (w : List UInt8), opIx l i w = -1 ∨ ∃ j s, l[j]? = some s ∧ s.w = w ∧ opIx l i w = ((i + j : Nat) : Int)
 | [], i, w => .inl rfl
 | s :: l, i, w => by
  unfold opIx
  cases hd : decide (s.w = w) with
  | true => exact .inr ⟨0, s, rfl, of_decide_eq_true hd, by rw [ct]; rfl⟩
  | false =>
   rw [cf]
   rcases opIx_word l (i + 1) w with h | ⟨j, s', h1, h2, h3⟩
   ·exact .inl h
   ·exact .inr ⟨j + 1, s', h1, h2, by rw [h3]; congr 1; omega⟩
theorem op_word {w : List UInt8} (h : isOp (opOf w) = true) : (shOf (opOf w)).w = w := by
 rcases opIx_word shL 0 w with e | ⟨j, s, h1, h2, h3⟩
 ·have e : opOf w = -1 := e
  rw [e] at h
  cases h
 ·have h3 : opOf w = (j : Int) := by have := h3; rw [Nat.zero_add] at this; exact this
  unfold shOf
  rw [h, ct, h3]
  show ((shL[((j : Int)).toNat]?).getD sh0).w = w
  rw [Int.toNat_natCast, h1]
  exact h2
theorem ins_inv {l : List T} {x : Ins} (h : insR l false = (x, [], false)) (hl : ∀ y ∈ l, Fine y) : l = insW x := by
 unfold insR at h
 dsimp only at h
 generalize hq : takeR 1 l false = q at h
 obtain ⟨t, r, b⟩ := q
 dsimp only at h
 generalize hop : opOf (tkS t).data.toList = op at h
 generalize h0 : fldR (shOf op).k0 0 r (bif isOp op then b else true) = q0 at h
 obtain ⟨f0, n0, r0, b0⟩ := q0
 dsimp only at h
 generalize h1 : fldR (shOf op).k1 n0 r0 b0 = q1 at h
 obtain ⟨f1, n1, r1, b1⟩ := q1
 dsimp only at h
 generalize h2 : fldR (shOf op).k2 n1 r1 b1 = q2 at h
 obtain ⟨f2, n2, r2, b2⟩ := q2
 dsimp only at h
 cases h
 have fr : ∀ y ∈ r, Fine y := by
  have := (takeR_ok 1 l false (fun y hy => (hl y hy).1)).2.1
  intro y hy
  unfold takeR at hq
  rw [cf] at hq
  cases l with
  | nil => cases hq; cases hy
  | cons z t' =>
   dsimp only at hq
   cases hd : decide (tkK z = 1) with
   | true => rw [hd] at hq; cases hq; exact hl y (List.mem_cons_of_mem _ hy)
   | false => rw [hd] at hq; cases hq; exact hl y hy
 have step : ∀ {k n f n' : Int} {l r : List T} {b bb : Bool}, fldR k n l b = (f, n', r, bb) → (∀ y ∈ l, Fine y) → ∀ y ∈ r, Fine y := by
  intro k n f n' l r b bb he hf
  have tk : ∀ (k : Int) (l : List T) (b : Bool), (∀ y ∈ l, Fine y) → ∀ y ∈ (takeR k l b).2.1, Fine y := by
   intro k l b hf y hy
   unfold takeR at hy
   cases b with
   | true => exact hf y hy
   | false =>
    rw [cf] at hy
    cases l with
    | nil => exact hf y hy
    | cons z t =>
     dsimp only at hy
     cases hd : decide (tkK z = k) with
     | true => rw [hd] at hy; exact hf y (List.mem_cons_of_mem _ hy)
     | false => rw [hd] at hy; exact hf y hy
  have bh : ∀ (c : UInt8) (l : List T) (b : Bool), (∀ y ∈ l, Fine y) → ∀ y ∈ (behindR c l b).2.1, Fine y := by
   intro c l b hf
   have h := tk 1 l b hf
   unfold behindR
   split
   ·exact h
   ·rename_i d t _
    cases decide (d = c) with
    | false => exact h
    | true =>
     dsimp only [cond_true]
     cases number t <;> exact h
  have e : r = (fldR k n l b).2.2.1 := by rw [he]
  rw [e]
  unfold fldR
  split
  ·exact bh _ _ _ hf
  ·split
   ·exact bh _ _ _ hf
   ·split
    ·exact tk _ _ _ hf
    ·split
     ·unfold signedR
      cases l with
      | nil => exact tk 2 _ _ hf
      | cons x t =>
       dsimp only
       cases decide ((tkS x).data.toList = [45]) with
       | false => exact tk 2 _ _ hf
       | true => exact tk 2 _ _ (tk 3 _ _ hf)
     ·exact hf
 have g0 := step h0 fr
 have g1 := step h1 g0
 obtain ⟨e2, l2, n2', z2⟩ := fld_inv h2 g1
 subst e2
 obtain ⟨e1, l1, n1', z1⟩ := fld_inv h1 g0
 subst e1
 obtain ⟨e0, l0, n0', z0⟩ := fld_inv h0 fr
 obtain ⟨s1, s2, s3⟩ := shape_5 op
 have ho : isOp op = true := by
  cases hoo : isOp op with
  | true => rfl
  | false => rw [hoo] at e0; cases e0
 rw [ho, ct] at e0
 subst e0
 obtain ⟨_, hlt, hk⟩ := take_inv hq
 obtain ⟨s, k, m, rfl, ht⟩ := fine_tok (hl t (by rw [hlt]; exact List.mem_cons_self ..))
 have hk : k = 1 := hk
 subst hk
 have hm0 := tok_1 ht
 subst hm0
 have hw : (shOf op).w = s.data.toList := by
  have : opOf s.data.toList = op := hop
  rw [← this] at ho ⊢
  exact op_word ho
 unfold insW
 dsimp only
 rw [hw, hlt, l0, l1, l2, List.append_nil, fldW_n s1 f0 n0 n2, n2' s2]
theorem head_inv {l : List T} {r a i : Int} (h : headR l = ((r, a, i), [], false)) (hl : ∀ y ∈ l, Fine y) : l = headW r a i := by
 unfold headR at h
 dsimp only at h
 generalize q1 : takeR 1 l false = t1 at h
 obtain ⟨x1, r1, b1⟩ := t1
 dsimp only at h
 generalize hb : (!decide ((tkS x1).data.toList = [99, 111, 100, 101])) = bb at h
 generalize q2 : takeR 2 r1 bb = t2 at h
 obtain ⟨x2, r2, b2⟩ := t2
 dsimp only at h
 generalize q3 : takeR 2 r2 b2 = t3 at h
 obtain ⟨x3, r3, b3⟩ := t3
 dsimp only at h
 generalize q4 : takeR 2 r3 b3 = t4 at h
 obtain ⟨x4, r4, b4⟩ := t4
 dsimp only at h
 cases h
 have e3 := (take_inv q4).1
 subst e3
 have e2 := (take_inv q3).1
 subst e2
 have e1 := (take_inv q2).1
 rw [e1] at hb q2
 have hx1 : (tkS x1).data.toList = [99, 111, 100, 101] := by
  cases hd : decide ((tkS x1).data.toList = [99, 111, 100, 101]) with
  | true => exact of_decide_eq_true hd
  | false => rw [hd] at hb; cases hb
 have hb1 : b1 = false ∧ l = x1 :: r1 ∧ tkK x1 = 1 := by
  cases b1 with
  | false => exact take_inv q1
  | true =>
   exfalso
   unfold takeR at q1
   rw [cf] at q1
   cases l with
   | nil => cases q1; revert hx1; decide
   | cons z t =>
    dsimp only at q1
    cases hd : decide (tkK z = 1) with
    | true => rw [hd] at q1; cases q1
    | false => rw [hd] at q1; cases q1; revert hx1; decide
 obtain ⟨_, h1, hk1⟩ := hb1
 have f1 : ∀ y ∈ r1, Fine y := fun y hy => hl y (by rw [h1]; exact List.mem_cons_of_mem _ hy)
 obtain ⟨_, a1, _, a2, h2⟩ := take_num q2 f1
 have f2 : ∀ y ∈ r2, Fine y := fun y hy => f1 y (by rw [h2]; exact List.mem_cons_of_mem _ hy)
 obtain ⟨_, c1, _, c2, h3⟩ := take_num q3 f2
 have f3 : ∀ y ∈ r3, Fine y := fun y hy => f2 y (by rw [h3]; exact List.mem_cons_of_mem _ hy)
 obtain ⟨_, d1, _, d2, h4⟩ := take_num q4 f3
 obtain ⟨s, k, m, rfl, ht⟩ := fine_tok (hl x1 (by rw [h1]; exact List.mem_cons_self ..))
 have hk1 : k = 1 := hk1
 subst hk1
 have hm0 := tok_1 ht
 subst hm0
 have hs : s.data.toList = [99, 111, 100, 101] := hx1
 unfold headW
 rw [numT_pos a1, numT_pos c1, numT_pos d1, h1, h2, h3, h4, mk_bytes hs]
 rw [← a2, ← c2, ← d2]
 rfl
theorem go_inv : ∀ (ls : List (List T)) (k : Nat) (r a i : Int) (acc : List Ins) {r' a' i' : Int} {l : List Ins}, (∀ m ∈ ls, ∀ y ∈ m, Fine y) → goP ls (k + 1) r a i acc = .ok r' a' i' l → r' = r ∧ a' = a ∧ i' = i ∧ ∃ m, l = acc ++ m ∧ ls = m.map insW
 | [], k, r, a, i, acc, _, _, _, _, _, h => by rw [goP] at h; cases h; exact ⟨rfl, rfl, rfl, [], by simp, rfl⟩
 | p :: ls, k, r, a, i, acc, _, _, _, _, hf, h => by
  rw [goP] at h
  cases hb : (insR p false).2.2 || !(insR p false).2.1.isEmpty with
  | true => rw [hb] at h; cases h
  | false =>
   rw [hb, cf] at h
   obtain ⟨h1, h2, h3, m, h4, h5⟩ := go_inv ls (k + 1) r a i _ (fun m hm => hf m (List.mem_cons_of_mem _ hm)) h
   refine ⟨h1, h2, h3, (insR p false).1 :: m, by rw [h4, List.append_assoc]; rfl, ?_⟩
   rw [Bool.or_eq_false_iff] at hb
   have e : insR p false = ((insR p false).1, [], false) := by
    obtain ⟨hb1, hb2⟩ := hb
    generalize insR p false = q at hb1 hb2 ⊢
    obtain ⟨x, r, b⟩ := q
    dsimp only at hb1 hb2 ⊢
    subst hb1
    cases r with
    | nil => rfl
    | cons y t => cases hb2
   rw [List.map_cons, ← ins_inv e (hf p (List.mem_cons_self ..)), h5]
theorem go_read {ls : List (List T)} {r a i : Int} {l : List Ins} (hn : ls ≠ []) (hf : ∀ m ∈ ls, ∀ y ∈ m, Fine y) (h : goP ls 0 0 0 0 [] = .ok r a i l) : ls = headW r a i :: l.map insW := by
 cases ls with
 | nil => exact absurd rfl hn
 | cons p ls =>
  rw [goP] at h
  cases hb : (headR p).2.2 || !(headR p).2.1.isEmpty with
  | true => rw [hb] at h; cases h
  | false =>
   rw [hb, cf] at h
   obtain ⟨h1, h2, h3, m, h4, h5⟩ := go_inv ls 0 _ _ _ _ (fun m hm => hf m (List.mem_cons_of_mem _ hm)) h
   rw [Bool.or_eq_false_iff] at hb
   have e : headR p = ((r, a, i), [], false) := by
    obtain ⟨hb1, hb2⟩ := hb
    generalize headR p = q at h1 h2 h3 hb1 hb2 ⊢
    obtain ⟨⟨x, y, z⟩, r', b⟩ := q
    dsimp only at h1 h2 h3 hb1 hb2 ⊢
    subst hb1 h1 h2 h3
    cases r' with
    | nil => rfl
    | cons y t => cases hb2
   rw [← head_inv e (hf p (List.mem_cons_self ..)), h5, h4]
   rfl
theorem split_join : ∀ (l : List T), (∀ x ∈ l, isLn x = true → x = lineT) → ∃ p q, splitL l = p :: q ∧ l = p ++ q.flatMap fun m => lineT :: m
 | [], _ => ⟨[], [], rfl, rfl⟩
 | x :: l, h => by
  obtain ⟨p, q, h1, h2⟩ := split_join l fun y hy => h y (List.mem_cons_of_mem _ hy)
  rw [splitL_cons, h1]
  cases hx : isLn x with
  | true =>
   refine ⟨[], p :: q, by rw [ct], ?_⟩
   rw [h x (List.mem_cons_self ..) hx, List.flatMap_cons, List.nil_append, List.cons_append, ← h2]
  | false => exact ⟨x :: p, q, by rw [cf], by rw [List.cons_append, ← h2]⟩
end Go.Proofs.Ytifkgdmiojnllaa.VM
end

section
namespace Go.Proofs.Ytifkgdmiojnllaa.VM
set_option linter.unusedSectionVars false
open Go AM
abbrev codeTy : List Ty1 := [.int .i64, .int .i64, .int .i64, .list [.int .i64, .int .i64, .int .i64, .int .i64, .int .i64] true]
theorem ins_of {x : T} {ts : List T} (h : fits [.int .i64, .int .i64, .int .i64, .int .i64, .int .i64] ts) : ∃ y : Ins, T.agg ts = insT y ∧ (Lit.int .i64 y.op).wf = true ∧ (Lit.int .i64 y.a).wf = true ∧ (Lit.int .i64 y.b).wf = true ∧ (Lit.int .i64 y.c).wf = true ∧ (Lit.int .i64 y.n).wf = true := by
 unfold fits at h
 obtain ⟨a, r, rfl, ha, h⟩ := h
 unfold fits at h
 obtain ⟨b, r, rfl, hb, h⟩ := h
 unfold fits at h
 obtain ⟨c, r, rfl, hc, h⟩ := h
 unfold fits at h
 obtain ⟨d, r, rfl, hd, h⟩ := h
 unfold fits at h
 obtain ⟨e, r, rfl, he, h⟩ := h
 unfold fits at h
 subst h
 unfold fit1 at ha hb hc hd he
 obtain ⟨a, rfl, wa⟩ := ha
 obtain ⟨b, rfl, wb⟩ := hb
 obtain ⟨c, rfl, wc⟩ := hc
 obtain ⟨d, rfl, wd⟩ := hd
 obtain ⟨e, rfl, we⟩ := he
 exact ⟨⟨a, b, c, d, e⟩, rfl, wa, wb, wc, wd, we⟩
theorem list_ins : ∀ (l : List T), (∀ y ∈ l, ∃ x : Ins, y = insT x) → ∃ m : List Ins, l = m.map insT
 | [], _ => ⟨[], rfl⟩
 | y :: l, h => by
  obtain ⟨x, rfl⟩ := h y (by simp)
  obtain ⟨m, rfl⟩ := list_ins l fun z hz => h z (List.mem_cons_of_mem _ hz)
  exact ⟨x :: m, rfl⟩
theorem wf64 {n : Int} (w1 : (Lit.int .i64 n).wf = true) : -9223372036854775808 ≤ n ∧ n < 9223372036854775808 := by
 simp [Lit.wf, IntKind.min, IntKind.max, IntKind.signed, IntKind.bits] at w1
 omega
theorem code_of {x : T} (h : FitT codeTy true x) : ∃ r a i z l, x = cdT r a i z l ∧ l.length ≤ maxLen ∧ (z = false → l = []) ∧ (-9223372036854775808 ≤ r ∧ r < 9223372036854775808) := by
 obtain ⟨ts, rfl, h⟩ := h
 unfold fits at h
 obtain ⟨r, t, rfl, hr, h⟩ := h
 unfold fits at h
 obtain ⟨a, t, rfl, ha, h⟩ := h
 unfold fits at h
 obtain ⟨i, t, rfl, hi, h⟩ := h
 unfold fits at h
 obtain ⟨l, t, rfl, hl, h⟩ := h
 unfold fits at h
 subst h
 unfold fit1 at hr ha hi hl
 obtain ⟨r, rfl, wr⟩ := hr
 obtain ⟨a, rfl, wa⟩ := ha
 obtain ⟨i, rfl, wi⟩ := hi
 obtain ⟨z, l, rfl, h1, h2, h3⟩ := hl
 obtain ⟨m, rfl⟩ := list_ins l fun y hy => by
  obtain ⟨ts, rfl, h4⟩ := h3 y hy
  obtain ⟨x, hx, _⟩ := ins_of (x := packT true ts) h4
  exact ⟨x, hx⟩
 exact ⟨r, a, i, z, m, rfl, by simpa using h1, fun hz => by simpa using h2 hz, wf64 wr⟩
theorem few13 (r a i : Int) (z : Bool) (l : List Ins) : vr 13 0 [.t (cdT r a i z l)] e0 = some (.t (.bool (decide (l.length ≤ 300))), e0) := by
 unfold cdT
 rw [eq13, R13]
 have : decide (((l.map insT).length : Int) ≤ 300) = decide (l.length ≤ 300) := decide_eq_decide.2 (by rw [List.length_map]; omega)
 rw [this]
theorem live_parse : parseOf ⟨#[99, 111, 100, 101, 32, 49, 32, 48, 32, 48, 10, 104, 97, 108, 116]⟩ = .tup [.t (cdT 1 0 0 true [⟨0, 0, 0, 0, 0⟩]), .t (.int .i64 2), .t (.int .i64 0)] := by kernel_rfl
theorem live9 : vr 9 0 [] e0 = some (.t (.bool true), e0) := by
 have h := check14 1 0 0 true [⟨0, 0, 0, 0, 0⟩]
 have h2 : checkB 1 0 0 [⟨0, 0, 0, 0, 0⟩] = true := by kernel_rfl
 rw [h2] at h
 rw [eq9, R9, parse10, live_parse, callK_some]
 unfold cdT at h ⊢
 rw [asTup_tup, consV_cons, asT_t, asA_agg, consT_cons, asI_int, consT_cons, asI_int, consT_cons, asI_int, consT_cons, asL_list, endT_nil, consV_cons, asT_t, asI_int, consV_cons, asT_t, asI_int, endV_nil, endB_nil, h]
 rfl
def eqIns (x y : Ins) : Bool := decide (x.op = y.op) && (decide (x.a = y.a) && (decide (x.b = y.b) && (decide (x.c = y.c) && (decide (x.n = y.n) && true))))
theorem eqIns_iff (x y : Ins) : eqIns x y = true ↔ x = y := by
 obtain ⟨a, b, c, d, e⟩ := x
 obtain ⟨a', b', c', d', e'⟩ := y
 unfold eqIns
 simp [Ins.mk.injEq]
def eqLs : List Ins → List Ins → Bool
 | x :: xs, y :: ys => eqIns x y && eqLs xs ys
 | _, _ => true
def sameL (l m : List Ins) : Bool := decide (l.length = m.length) && eqLs l m
theorem eqLs_iff : ∀ (l m : List Ins), l.length = m.length → (eqLs l m = true ↔ l = m)
 | [], [], _ => by simp [eqLs]
 | [], _ :: _, h => by simp at h
 | _ :: _, [], h => by simp at h
 | x :: xs, y :: ys, h => by
  have ih := eqLs_iff xs ys (by simpa using h)
  unfold eqLs
  rw [Bool.and_eq_true, eqIns_iff, ih, List.cons.injEq]
theorem sameL_iff (l m : List Ins) : sameL l m = true ↔ l = m := by
 unfold sameL
 rw [Bool.and_eq_true, decide_eq_true_eq]
 constructor
 ·rintro ⟨h1, h2⟩; exact (eqLs_iff l m h1).1 h2
 ·rintro rfl; exact ⟨rfl, (eqLs_iff l l rfl).2 rfl⟩
theorem L40_spec (z1 z2 : Bool) (a b : List Ins) (hl : a.length = b.length) (hb : a.length ≤ 9223372036854775806) : ∀ (m k : Nat), m + k = a.length →
  L40_4 z1 (a.map insT) z2 (b.map insT) ((a.map insT).length : Int) (k : Int) = some (.t (.bool (eqLs (a.drop k) (b.drop k))), e0)
 | 0, k, h => by
  have d : decide ((k : Int) < ((a.map insT).length : Int)) = false := decide_eq_false (by rw [List.length_map]; omega)
  rw [L40_4_eq, RL40_4, d, cf, List.drop_of_length_le (by omega)]
  rfl
 | m + 1, k, h => by
  have hk : k < a.length := by omega
  have hk2 : k < b.length := by omega
  have d : decide ((k : Int) < ((a.map insT).length : Int)) = true := decide_eq_true (by rw [List.length_map]; omega)
  have n0 : decide ((0 : Int) ≤ (k : Int)) = true := decide_eq_true (by omega)
  have hw : IntKind.i64.wrap ((k : Int) + 1) = ((k + 1 : Nat) : Int) := by rw [wrap64 (by omega) (by omega)]; simp
  rw [L40_4_eq, RL40_4, d, ct, needC_true n0, Int.toNat_natCast, ins_at hk]
  unfold insT
  rw [asA_agg, consT_cons, asI_int, consT_cons, asI_int, consT_cons, asI_int, consT_cons, asI_int, consT_cons, asI_int, endT_nil, needC_true n0]
  have hg := ins_at (R := V × St) hk2
  unfold insT at hg
  have ih := L40_spec z1 z2 a b hl hb m (k + 1) (by omega)
  unfold insT at ih
  rw [hg, asA_agg, consT_cons, asI_int, consT_cons, asI_int, consT_cons, asI_int, consT_cons, asI_int, consT_cons, asI_int, endT_nil, hw, ih, List.drop_eq_getElem_cons hk, List.drop_eq_getElem_cons hk2]
  have e : eqLs (a[k] :: a.drop (k + 1)) (b[k] :: b.drop (k + 1)) = (eqIns a[k] b[k] && eqLs (a.drop (k + 1)) (b.drop (k + 1))) := rfl
  rw [e]
  unfold eqIns
  cases (decide (a[k].op = b[k].op) && (decide (a[k].a = b[k].a) && (decide (a[k].b = b[k].b) && (decide (a[k].c = b[k].c) && (decide (a[k].n = b[k].n) && true))))) with
  | true => rw [bNT, cf, bTA]
  | false => rw [bNF, ct, bFA]
theorem same19 (r a i r' a' i' : Int) (z z' : Bool) (l l' : List Ins) (hb : l.length ≤ 9223372036854775806) (hb' : l'.length ≤ 9223372036854775806) : vr 19 0 [.t (cdT r a i z l), .t (cdT r' a' i' z' l')] e0 = some (.t (.bool ((decide (r = r') && (decide (a = a') && (decide (i = i') && true))) && sameL l l')), e0) := by
 unfold cdT
 rw [eq19, R19]
 cases (decide (r = r') && (decide (a = a') && (decide (i = i') && true))) with
 | false => rfl
 | true =>
  have e1 : decide (((l.map insT).length : Int) = ((l'.map insT).length : Int)) = decide (l.length = l'.length) := decide_eq_decide.2 (by rw [List.length_map, List.length_map]; omega)
  rw [ct, bTA, eq40, R40, e1]
  unfold sameL
  by_cases h : l.length = l'.length
  ·have hs := L40_spec z z' l l' h hb l.length 0 (by omega)
   have h00 : ((0 : Nat) : Int) = 0 := rfl
   rw [h00, List.drop_zero, List.drop_zero] at hs
   rw [decide_eq_true h, bNT, cf, hs, callK_some, asT_t, asB_bool, endB_nil, bTA]
  ·rw [decide_eq_false h, bNF, ct, callK_some, asT_t, asB_bool, endB_nil, bFA]
end Go.Proofs.Ytifkgdmiojnllaa.VM
end

section
namespace Go.Proofs.Ytifkgdmiojnllaa.VM
set_option linter.unusedSectionVars false
set_option linter.unusedVariables false
set_option linter.unusedSimpArgs false
open Go AM
theorem jline_zero : ∀ (l : List (Tk × Int)) (b : Bool) {c : Bool}, jline b l = some c → ∀ x ∈ l, x.2 = 0
 | [], b, c, _, x, hx => by cases hx
 | y :: l, b, c, h, x, hx => by
  rw [jline] at h
  split at h
  ·rename_i h1
   rcases List.mem_cons.1 hx with rfl | hx
   ·exact h1.1
   ·exact jline_zero l _ h x hx
  ·cases h
def parseTk (out : List T) : V := bif out.isEmpty then .tup [.t code0, .t (.int .i64 0), .t (.int .i64 6)] else parV (splitL out).length (goP (splitL out) 0 0 0 0 [])
theorem parse_join {l : List T} (h : ∀ x ∈ l, IsTok x) (hj : (joinE (l.map tkOf)).2 = 0) (hs : (joinE (l.map tkOf)).1.length ≤ 65536) : parseOf ⟨(joinE (l.map tkOf)).1.toArray⟩ = parseTk l := by
 obtain ⟨h1, h2, h3⟩ := cut_join (l.map tkOf) (chk_of l h) hj ((joinE (l.map tkOf)).1.length + 1) (by
  obtain ⟨_, h2, _⟩ := cut_join (l.map tkOf) (chk_of l h) hj _ (Nat.lt_succ_self _)
  rw [h2]; omega)
 rw [List.length_map] at h3
 rw [un_tk h, ← h2] at h1
 have hz : (⟨(joinE (l.map tkOf)).1.toArray⟩ : ByteArray).size = (joinE (l.map tkOf)).1.length := by simp [ByteArray.size]
 have hd : (⟨(joinE (l.map tkOf)).1.toArray⟩ : ByteArray).data.toList = (joinE (l.map tkOf)).1 := by simp
 unfold parseOf parseTk
 rw [hz, hd, decide_eq_false (by omega), cf, cutE_toR, h1]
 unfold CutE.toR
 dsimp only
 rw [decide_eq_false (by omega), cf]
theorem fine_size {x : T} (h : Fine x) : (tkS x).size ≤ 18 := by
 obtain ⟨s, k, n, rfl, ht⟩ := fine_tok h
 show s.size ≤ 18
 rw [← size_list]
 unfold tok at ht
 cases hn : number s.data.toList with
 | some m =>
  obtain ⟨g1, g2, g3⟩ := number_inv hn
  rw [g3]
  exact digL_len18 g1 g2
 | none =>
  rw [hn] at ht
  cases hw : isWord s.data.toList with
  | true =>
   revert hw
   cases s.data.toList with
   | nil => intro _; simp
   | cons b t =>
    intro hw
    unfold isWord at hw
    simp only [Bool.and_eq_true, decide_eq_true_eq] at hw
    omega
  | false =>
   rw [hw] at ht
   cases hs : isSign s.data.toList with
   | false => rw [hs] at ht; cases ht
   | true =>
    revert hs
    cases s.data.toList with
    | nil => intro _; simp
    | cons b t =>
     cases t with
     | nil => intro _; simp
     | cons c t => intro h; cases h
theorem wt_app (a b : List T) : wtJ ((a ++ b).map tkOf) = wtJ (a.map tkOf) + wtJ (b.map tkOf) := by
 unfold wtJ
 rw [List.map_append, List.map_append, List.sum_append]
theorem wt_fine : ∀ (l : List T), (∀ x ∈ l, Fine x) → wtJ (l.map tkOf) ≤ 19 * l.length
 | [], _ => by simp [wtJ]
 | x :: l, h => by
  have h1 := fine_size (h x (List.mem_cons_self ..))
  obtain ⟨s, k, n, rfl, _⟩ := fine_tok (h x (List.mem_cons_self ..))
  have h1 : s.size ≤ 18 := h1
  have ih := wt_fine l fun y hy => h y (List.mem_cons_of_mem _ hy)
  have e : wtJ ((tokT s k n :: l).map tkOf) = s.size + 1 + wtJ (l.map tkOf) := by simp [wtJ, tkOf_tok]
  rw [e, List.length_cons]
  omega
theorem wt_lines {r a n : Int} (hr : r ≤ 128) (ha : a ≤ 128) (hn : n ≤ 4096) : ∀ (l : List Ins), (∀ x ∈ l, mayB r a n x = true) → wtJ ((l.flatMap fun x => lineT :: insW x).map tkOf) ≤ 134 * l.length ∧ (l.flatMap fun x => lineT :: insW x).length ≤ 8 * l.length
 | [], _ => ⟨by simp [wtJ], by simp⟩
 | x :: l, h => by
  obtain ⟨i1, i2⟩ := wt_lines hr ha hn l fun y hy => h y (List.mem_cons_of_mem _ hy)
  have w := wt_fine (insW x) (insW_fine hr ha hn (h x (List.mem_cons_self ..)))
  have g := insW_len x
  rw [List.flatMap_cons, wt_app]
  have e : wtJ ((lineT :: insW x).map tkOf) = 1 + wtJ ((insW x).map tkOf) := by
   have : wtJ ([lineT].map tkOf) = 1 := rfl
   have h2 := wt_app [lineT] (insW x)
   rw [this] at h2
   exact h2
  rw [e]
  simp only [List.length_append, List.length_cons]
  omega
theorem numT_len (n : Int) : (numT n).length ≤ 2 := by unfold numT; cases decide (n < 0) <;> simp
theorem codeW_wt {r a i : Int} {l : List Ins} (h : Okb r a i l) (h3 : l.length ≤ 300) : wtJ ((codeW r a i l).map tkOf) ≤ 50000 ∧ (codeW r a i l).length ≤ 4096 := by
 obtain ⟨w1, w2⟩ := wt_lines h.r0.2 h.a0.2 (by have := h.len.2; omega : (l.length : Int) ≤ 4096) l h.may
 have w0 := wt_fine _ (headW_fine h)
 have hl : (headW r a i).length ≤ 7 := by
  have q1 := numT_len r
  have q2 := numT_len a
  have q3 := numT_len i
  unfold headW
  simp only [List.length_cons, List.length_append]
  omega
 rw [codeW_eq, wt_app, List.length_append]
 omega
theorem codeW_tok {r a i : Int} {l : List Ins} (h : Okb r a i l) : ∀ y ∈ codeW r a i l, IsTok y := by
 intro y hy
 rw [codeW_eq] at hy
 rcases List.mem_append.1 hy with hy | hy
 ·exact (headW_fine h y hy).1
 ·obtain ⟨x, hx, hy⟩ := List.mem_flatMap.1 hy
  rcases List.mem_cons.1 hy with rfl | hy
  ·exact ⟨_, _, _, rfl⟩
  ·exact insW_tok x y hy
theorem join_zero {l : List T} (hj : jline true (l.map tkOf) = some false) (hn : l.length ≤ 4096) : (joinE (l.map tkOf)).2 = 0 := by
 unfold joinE
 rw [hj]
 dsimp only
 rw [if_neg (by simp), if_neg (by simp; omega)]
theorem join_len {l : List T} (hj : (joinE (l.map tkOf)).2 = 0) {n : Nat} (hw : wtJ (l.map tkOf) ≤ n) : (joinE (l.map tkOf)).1.length ≤ n := by
 rw [joinE_small hj]
 have := jtext_len (l.map tkOf) [] (by simp)
 simp at this
 omega
theorem codeW_ne (r a i : Int) (l : List Ins) : (codeW r a i l).isEmpty = false := rfl
theorem parse_code {r a i : Int} {l : List Ins} (h : Okb r a i l) (hc : checkB r a i l = true) : parseTk (codeW r a i l) = .tup [.t (cdT r a i (!l.isEmpty) l), .t (.int .i64 ((l.length + 1 : Nat) : Int)), .t (.int .i64 0)] := by
 unfold parseTk
 rw [codeW_ne, cf, go_written h, splitL_code h]
 unfold parV
 dsimp only
 rw [hc, ct, List.length_cons, List.length_map]
theorem parse_form (s : ByteArray) (hs : s.size ≤ 20000) : (∃ n e, parseOf s = .tup [.t code0, .t (.int .i64 n), .t (.int .i64 e)] ∧ e ≠ 0) ∨
  ∃ r a i l, parseOf s = .tup [.t (cdT r a i (!l.isEmpty) l), .t (.int .i64 ((l.length + 1 : Nat) : Int)), .t (.int .i64 0)] ∧ checkB r a i l = true ∧ (codeW r a i l).length ≤ 4096 ∧ wtJ ((codeW r a i l).map tkOf) ≤ 40000 := by
 unfold parseOf
 rw [decide_eq_false (by omega), cf, cutE_toR]
 cases h : cutE (s.size + 1) s.data.toList 0 false [] with
 | err p => exact .inl ⟨_, _, rfl, by decide⟩
 | ok ln out =>
  have hc := cut_cutd _ _ _ _ _ ⟨fun x hx => (by cases hx), fun h => absurd rfl h, by simp [wtJ]⟩ h
  rw [size_list, Nat.zero_add] at hc
  unfold CutE.toR
  dsimp only
  cases h4 : decide (4096 < out.length) with
  | true => exact .inl ⟨_, _, rfl, by decide⟩
  | false =>
   have h4 := of_decide_eq_false h4
   rw [cf]
   cases he : out.isEmpty with
   | true => exact .inl ⟨_, _, rfl, by decide⟩
   | false =>
    rw [cf]
    have hne : out ≠ [] := fun e => by rw [e] at he; cases he
    have hj := hc.ln hne
    have h0 : ∀ x ∈ out, (tkOf x).2 = 0 := fun x hx => jline_zero _ _ hj _ (List.mem_map_of_mem hx)
    have hln : ∀ x ∈ out, isLn x = true → x = lineT := by
     intro x hx hl
     obtain ⟨t, k, v, rfl⟩ := hc.tks x hx
     have hk : (tkOf (tokT t k v)).1.1 = 4 := of_decide_eq_true hl
     exact ((chk_kind (x := tkOf (tokT t k v)) rfl (h0 _ hx)).resolve_right (fun g => g.1 hk)).2
    have hf : ∀ m ∈ splitL out, ∀ y ∈ m, Fine y := by
     intro m hm y hy
     obtain ⟨g1, g2⟩ := splitL_mem out m hm y hy
     exact ⟨hc.tks y g1, of_decide_eq_false g2, h0 y g1⟩
    cases hg : goP (splitL out) 0 0 0 0 [] with
    | bad k => exact .inl ⟨_, _, rfl, by decide⟩
    | ok r a i l =>
     have hsp := go_read (splitL_ne out) hf hg
     obtain ⟨p, q, e1, e2⟩ := split_join out hln
     rw [hsp] at e1
     cases e1
     have hout : out = codeW r a i l := e2.trans (congrArg (headW r a i ++ ·) (flatMap_map insW l).symm)
     unfold parV
     dsimp only
     cases hcb : checkB r a i l with
     | false => exact .inl ⟨_, _, rfl, by decide⟩
     | true =>
      refine .inr ⟨r, a, i, l, ?_, hcb, by rw [← hout]; omega, ?_⟩
      ·rw [ct, hsp, List.length_cons, List.length_map]
      ·rw [← hout]
       have := hc.wt
       omega
theorem same_self (r a i : Int) (z z' : Bool) (l : List Ins) (hb : l.length ≤ 9223372036854775806) : vr 19 0 [.t (cdT r a i z l), .t (cdT r a i z' l)] e0 = some (.t (.bool true), e0) := by
 rw [same19 r a i r a i z z' l l hb hb, decide_eq_true rfl, decide_eq_true rfl, decide_eq_true rfl, (sameL_iff l l).2 rfl]
 rfl
theorem back_tail (s : ByteArray) (hs : s.size ≤ 20000) (x0 x1 x2 : Int) (z : Bool) (m : List T) : J6_9 s true x0 x1 x2 z m = some (.t (.bool true), e0) := by
 rw [J6_9_eq, RJ6_9, parse10]
 rcases parse_form s hs with ⟨n, e, h, he⟩ | ⟨r, a, i, l, h, hc, hl, hw⟩
 ·rw [h]
  simp only [callK_some, asTup_tup, consV_cons, asT_t, asA_agg, consT_cons, asI_int, asL_list, endT_nil, endV_nil, endB_nil]
  rw [decide_eq_false he]
  rfl
 ·have ok := okb_of hc
  have hj := join_zero (codeW_line ok) hl
  have ht := text21 r a i (!l.isEmpty) l fun _ => joinOk_of (by rw [List.length_map]; omega) (by omega)
  have hp := parse_join (codeW_tok ok) hj (join_len hj (by omega : _ ≤ 65536))
  rw [parse_code ok hc] at hp
  have hs2 := same_self r a i (!l.isEmpty) (!l.isEmpty) l (by have := ok.len.2; omega)
  rw [hc, ct, hj] at ht
  rw [h]
  unfold cdT at ht hs2 hp ⊢
  simp only [callK_some, asTup_tup, consV_cons, asT_t, asA_agg, consT_cons, asI_int, asL_list, endT_nil, endV_nil, endB_nil, decide_true, Bool.not_true, cf, ct]
  rw [ht]
  simp only [callK_some, asTup_tup, consV_cons, asT_t, asS_str, asI_int, endV_nil, endB_nil]
  rw [parse10, hp]
  simp only [callK_some, asTup_tup, consV_cons, asT_t, asA_agg, consT_cons, asI_int, asL_list, endT_nil, endV_nil, endB_nil, decide_true, ct]
  rw [hs2]
  rfl
theorem back_spec (x0 : T) (f0 : FitT codeTy true x0) (s : ByteArray) (ws : s.size ≤ 140737488351232) : ∃ st, vr 6 0 [.t x0, .t (.str s)] ⟨[], []⟩ = some (.t (.bool true), st) := by
 obtain ⟨r, a, i, z, l, rfl, hmax, _, _, _⟩ := code_of f0
 refine ⟨e0, ?_⟩
 have hf := few13 r a i z l
 unfold cdT at hf ⊢
 rw [eq6, R6, live9, callK_some, asT_t, asB_bool, endB_nil, hf, callK_some, asT_t, asB_bool, endB_nil]
 by_cases h300 : l.length ≤ 300
 ·rw [decide_eq_true h300, bNT, cf]
  by_cases hs : s.size ≤ 20000
  ·rw [decide_eq_false (by omega), cf]
   have ht := text21 r a i z l fun hc => by
    obtain ⟨w1, w2⟩ := codeW_wt (okb_of hc) h300
    exact joinOk_of (by rw [List.length_map]; omega) (by omega)
   unfold cdT at ht
   rw [ht, callK_some]
   cases hc : checkB r a i l with
   | false =>
    rw [cf, asTup_tup, consV_cons, asT_t, asS_str, consV_cons, asT_t, asI_int, endV_nil, endB_nil]
    have d : decide ((1 : Int) = 0) = false := rfl
    rw [d, cf]
    exact back_tail s hs _ _ _ _ _
   | true =>
    have ok := okb_of hc
    obtain ⟨w1, w2⟩ := codeW_wt ok h300
    have hj := join_zero (codeW_line ok) w2
    have hp := parse_join (codeW_tok ok) hj (join_len hj (by omega : _ ≤ 65536))
    rw [parse_code ok hc] at hp
    have hs2 := same_self r a i z (!l.isEmpty) l (by omega)
    unfold cdT at hs2 hp
    rw [ct, asTup_tup, consV_cons, asT_t, asS_str, consV_cons, asT_t, asI_int, endV_nil, endB_nil, hj]
    have d : decide ((0 : Int) = 0) = true := rfl
    have hw : IntKind.i64.wrap (((l.map insT).length : Int) + 1) = ((l.length + 1 : Nat) : Int) := by rw [List.length_map, wrap64 (by omega) (by omega)]; simp
    rw [d, ct, parse10, hp, callK_some]
    simp only [asTup_tup, consV_cons, asT_t, asA_agg, consT_cons, asI_int, asL_list, endT_nil, endV_nil, endB_nil, decide_true, Bool.not_true, cf]
    rw [hw, decide_eq_true rfl, bNT, cf, hs2, callK_some, asT_t, asB_bool, endB_nil, bNT, cf]
    exact back_tail s hs _ _ _ _ _
  ·rw [decide_eq_true (by omega), ct]
 ·rw [decide_eq_false h300, bNF, ct]
end Go.Proofs.Ytifkgdmiojnllaa.VM
end
