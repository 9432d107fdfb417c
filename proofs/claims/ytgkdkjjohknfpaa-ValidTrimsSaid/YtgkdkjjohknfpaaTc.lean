/- Merged: Tc1 Tc2 Tc3. Conditions: none. -/
import Derived.Test.YtgkdkjjohknfpaaTa
set_option linter.all false
section
namespace Go.Proofs.Ytgkdkjjohknfpaa.VM
set_option linter.unusedSectionVars false
open Go AM
def LowT (G F : Fl) : Prop := ∀ (k : Nat) (c : Bt), F[k]? = some (some c) → ∃ d, G[k]? = some (some d) ∧ SubB d c
theorem sub_both {a b c : Bt} (h : SubB a b) (g : SubB a c) : SubB a (bothB b c) := fun n hn x => by
  rw [has_both, h n hn x, g n hn x]
  rfl
theorem SubB.anti {a b : Bt} (h : SubB a b) (g : SubB b a) : a = b := bt_ext fun n hn => by
  have h1 := h n hn
  have h2 := g n hn
  revert h1 h2
  cases hasB a n <;> cases hasB b n <;> simp
theorem out_mono {x : Ins} (hx : writesB x = true → 0 ≤ x.a ∧ x.a < 128) {a b : Bt} (h : SubB a b) : SubB (outB x a) (outB x b) := by
  unfold outB
  cases hw : writesB x with
  | false => exact h
  | true =>
    obtain ⟨h0, h1⟩ := hx hw
    rw [ct, ct]
    intro n hn hy
    rw [has_with _ _ _ (by omega) hn] at hy ⊢
    rcases Bool.or_eq_true _ _ ▸ hy with h2 | h2
    · rw [h n hn h2]; rfl
    · rw [h2, Bool.or_true]
theorem come_low {b : Bt} {G : Fl} {x : Fl × List Int} {k : Int} (h0 : 0 ≤ k) (h1 : k < (x.1.length : Int)) (hl : LowT G x.1) (hk : ∃ e, G[k.toNat]? = some (some e) ∧ SubB e b) : LowT G (comeF b x k).1 := by
  have hkl : k.toNat < x.1.length := by omega
  have hF : x.1[k.toNat]? = some x.1[k.toNat] := List.getElem?_eq_getElem hkl
  unfold comeF
  cases hc : chgB b k.toNat x.1 with
  | false => exact hl
  | true =>
    rw [ct]
    intro j c hj
    have hs : (x.1.set k.toNat (some (newB b k.toNat x.1)))[j]? = some (some c) := hj
    clear hj
    rw [List.getElem?_set] at hs
    by_cases e : k.toNat = j
    · rw [if_pos e, if_pos hkl] at hs
      subst e
      obtain ⟨d, h2, h3⟩ := hk
      refine ⟨d, h2, ?_⟩
      have hj : newB b k.toNat x.1 = c := by simpa using hs
      rw [← hj]
      unfold newB
      rw [hF]
      cases ho : x.1[k.toNat] with
      | none => exact h3
      | some c2 =>
        rw [ho] at hF
        obtain ⟨d2, h4, h5⟩ := hl _ _ hF
        rw [h2] at h4
        cases h4
        exact sub_both h3 h5
    · rw [if_neg e] at hs
      exact hl j c hs
theorem fold_low {b : Bt} {G : Fl} : ∀ (ks : List Int) (x : Fl × List Int), (∀ k ∈ ks, 0 ≤ k ∧ k < (x.1.length : Int)) → LowT G x.1 → (∀ k ∈ ks, ∃ e, G[k.toNat]? = some (some e) ∧ SubB e b) → LowT G (ks.foldl (comeF b) x).1
  | [], _, _, h, _ => h
  | k :: ks, x, hk, h, hg => by
    obtain ⟨a1, a2⟩ := hk k (by simp)
    exact fold_low ks _ (fun q hq => by rw [come_len]; exact hk q (List.mem_cons_of_mem _ hq)) (come_low a1 a2 h (hg k (by simp))) fun q hq => hg q (List.mem_cons_of_mem _ hq)
theorem Runs.low {L : List Ins} (fl : FineL L) {F F' : Fl} {td : List Int} (h : Runs L F td F') {G : Fl} (hG : ClosedT L G []) : F.length = L.length → LowT G F → LowT G F' := by
  induction h with
  | done => exact fun _ h => h
  | step ht hb hr ih =>
    rename_i F F' ts t b
    intro hl hlow
    obtain ⟨d, h1, h2⟩ := hlow t b hb
    have hlen := (fold_w (b := outB L[t] b) (nextL L[t] (t : Int)) (F, ts) fun k hk => by rw [hl]; exact fl.next t ht k hk).1
    refine ih (hlen.trans hl) (fold_low _ (F, ts) (fun k hk => by rw [hl]; exact fl.next t ht k hk) hlow fun k hk => ?_)
    rcases hG t ht d h1 with h3 | h3
    · cases h3
    · obtain ⟨e, h4, h5⟩ := h3 k hk
      exact ⟨e, h4, h5.trans (out_mono (fl.wr t ht) h2)⟩
theorem FlowOf.low {L : List Ins} (fl : FineL L) {F : Fl} (h : FlowOf L F) {G : Fl} (hG : ClosedT L G []) (h0 : ∃ d, G[0]? = some (some d) ∧ SubB d (0, 0)) : LowT G F := by
  refine Runs.low fl h hG (init_len _) fun k c hk => ?_
  have := init_at hk
  subst this
  have hn : 0 < L.length := by
    rcases Nat.eq_zero_or_pos L.length with e | e
    · have : (initF L.length)[0]? = none := by rw [List.getElem?_eq_none]; rw [init_len, e]; exact Nat.le_refl _
      rw [this] at hk
      cases hk
    · exact e
  rw [init_zero hn] at hk
  cases hk
  exact h0
theorem FlowOf.zero {L : List Ins} (fl : FineL L) (h0 : 0 < L.length) {F : Fl} (h : FlowOf L F) : F[0]? = some (some (0, 0)) := by
  obtain ⟨_, _, h3⟩ := Runs.closed fl h (init_len _) fun i _ b hb => by
    have := init_at hb
    subst this
    exact .inl (by simp)
  obtain ⟨d, h4, h5⟩ := h3 0 _ (init_zero h0)
  have hz : SubB (0, 0) d := fun n hn hx => by
    have : hasB (0, 0) n = false := by
      unfold hasB
      by_cases e : n < 64
      · rw [decide_eq_true e, ct]; simp
      · rw [decide_eq_false e, cf]; simp
    rw [this] at hx
    cases hx
  rw [h4, h5.anti hz]
end Go.Proofs.Ytgkdkjjohknfpaa.VM
end

section
namespace Go.Proofs.Ytgkdkjjohknfpaa.VM
set_option linter.unusedSectionVars false
open Go AM
section
variable {α : Type}
def keepG : List α → Fl → List α
  | x :: l, o :: F => bif o.isSome then x :: keepG l F else keepG l F
  | _, _ => []
def atN : Fl → Nat → Nat
  | [], _ => 0
  | _ :: _, 0 => 0
  | o :: F, i + 1 => (bif o.isSome then 1 else 0) + atN F i
theorem keep_cons (x : α) (l : List α) (o : Option Bt) (F : Fl) : keepG (x :: l) (o :: F) = bif o.isSome then x :: keepG l F else keepG l F := rfl
theorem at_cons (o : Option Bt) (F : Fl) (i : Nat) : atN (o :: F) (i + 1) = (bif o.isSome then 1 else 0) + atN F i := rfl
theorem at_zero (F : Fl) : atN F 0 = 0 := by cases F <;> rfl
theorem keep_at : ∀ (l : List α) (F : Fl) (i : Nat) (x : α) (b : Bt), l[i]? = some x → F[i]? = some (some b) → (keepG l F)[atN F i]? = some x
  | [], _, _, _, _, h, _ => by simp at h
  | _ :: _, [], _, _, _, _, h => by simp at h
  | y :: l, o :: F, 0, x, b, h, hb => by
    have h1 : y = x := by simpa using h
    have h2 : o = some b := by simpa using hb
    subst h1
    subst h2
    rfl
  | y :: l, o :: F, i + 1, x, b, h, hb => by
    have ih := keep_at l F i x b (by simpa using h) (by simpa using hb)
    rw [keep_cons, at_cons]
    cases o.isSome with
    | true => rw [ct, ct, Nat.add_comm]; simpa using ih
    | false => rw [cf, cf, Nat.zero_add]; exact ih
theorem keep_of : ∀ (l : List α) (F : Fl), F.length = l.length → ∀ p, p < (keepG l F).length → ∃ i b, i < l.length ∧ F[i]? = some (some b) ∧ atN F i = p
  | [], F, _, p, h => by cases F <;> exact absurd h (Nat.not_lt_zero _)
  | _ :: _, [], h, _, _ => by simp at h
  | y :: l, o :: F, hl, p, h => by
    have ih := keep_of l F (by simpa using hl)
    rw [keep_cons] at h
    cases ho : o with
    | none =>
      rw [ho] at h
      obtain ⟨i, b, h1, h2, h3⟩ := ih p h
      exact ⟨i + 1, b, by simpa using h1, by simpa using h2, by rw [at_cons]; show 0 + atN F i = p; omega⟩
    | some c =>
      rw [ho] at h
      cases p with
      | zero => exact ⟨0, c, by simp, rfl, rfl⟩
      | succ p =>
        obtain ⟨i, b, h1, h2, h3⟩ := ih p (by simpa using h)
        exact ⟨i + 1, b, by simpa using h1, by simpa using h2, by rw [at_cons]; show 1 + atN F i = p + 1; omega⟩
theorem at_succ : ∀ (F : Fl) (i : Nat) (b : Bt), F[i]? = some (some b) → atN F (i + 1) = atN F i + 1
  | [], _, _, h => by simp at h
  | o :: F, 0, b, h => by
    have h2 : o = some b := by simpa using h
    subst h2
    rw [at_cons, at_zero]
    rfl
  | o :: F, i + 1, b, h => by
    have := at_succ F i b (by simpa using h)
    rw [at_cons, at_cons, this]
    omega
theorem at_skip : ∀ (F : Fl) (i : Nat), F[i]? = some none → atN F (i + 1) = atN F i
  | [], _, h => by simp at h
  | o :: F, 0, h => by
    have h2 : o = none := by simpa using h
    subst h2
    rw [at_cons, at_zero, at_zero]
    rfl
  | o :: F, i + 1, h => by
    have := at_skip F i (by simpa using h)
    rw [at_cons, at_cons, this]
theorem at_le : ∀ (F : Fl) (i : Nat), atN F i ≤ i
  | [], _ => Nat.zero_le _
  | _ :: _, 0 => Nat.le_refl _
  | o :: F, i + 1 => by
    have := at_le F i
    rw [at_cons]
    cases o.isSome
    · rw [cf]; omega
    · rw [ct]; omega
theorem keep_len : ∀ (l : List α) (F : Fl), F.length = l.length → (keepG l F).length = atN F l.length
  | [], F, h => by
    have : F = [] := List.length_eq_zero_iff.1 h
    subst this
    rfl
  | y :: l, [], h => by simp at h
  | y :: l, o :: F, h => by
    have := keep_len l F (by simpa using h)
    rw [keep_cons, List.length_cons, at_cons, ← this]
    cases o.isSome
    · rw [cf, cf, Nat.zero_add]
    · rw [ct, ct, List.length_cons, Nat.add_comm]
theorem at_lt {l : List α} {F : Fl} (hF : F.length = l.length) {i : Nat} {b : Bt} (h : F[i]? = some (some b)) : atN F i < (keepG l F).length := by
  have hi : i < l.length := by
    rcases Nat.lt_or_ge i F.length with h1 | h1
    · omega
    · rw [List.getElem?_eq_none h1] at h; cases h
  have := keep_at l F i l[i] b (List.getElem?_eq_getElem hi) h
  rcases Nat.lt_or_ge (atN F i) (keepG l F).length with h1 | h1
  · exact h1
  · rw [List.getElem?_eq_none h1] at this; cases this
def AllR (F : Fl) : Prop := ∀ o ∈ F, ∃ b, o = some b
theorem keep_all : ∀ (l : List α) (F : Fl), F.length = l.length → AllR F → keepG l F = l
  | [], F, _, _ => by cases F <;> rfl
  | y :: l, [], h, _ => by simp at h
  | y :: l, o :: F, h, ha => by
    obtain ⟨b, rfl⟩ := ha o (by simp)
    rw [keep_cons, keep_all l F (by simpa using h) fun q hq => ha q (List.mem_cons_of_mem _ hq)]
    rfl
theorem at_all : ∀ (F : Fl) (i : Nat), AllR F → i ≤ F.length → atN F i = i
  | [], i, _, h => by have : i = 0 := by simpa using h
                      subst this; rfl
  | _ :: _, 0, _, _ => rfl
  | o :: F, i + 1, ha, h => by
    obtain ⟨b, rfl⟩ := ha o (by simp)
    rw [at_cons, at_all F i (fun q hq => ha q (List.mem_cons_of_mem _ hq)) (by simpa using h)]
    show 1 + i = i + 1
    omega
theorem keep_allR : ∀ (F G : Fl), G = F → AllR (keepG F G)
  | [], G, h => by subst h; intro o ho; simp [keepG] at ho
  | o :: F, G, h => by
    subst h
    intro q hq
    rw [keep_cons] at hq
    cases ho : o with
    | none => rw [ho] at hq; exact keep_allR F F rfl q hq
    | some b =>
      rw [ho] at hq
      rcases List.mem_cons.1 hq with rfl | hq
      · exact ⟨b, rfl⟩
      · exact keep_allR F F rfl q hq
end
def reT (F : Fl) (x : Ins) : Ins :=
  bif decide (x.op = 10) then ⟨x.op, (atN F x.a.toNat : Int), x.b, x.c, x.n⟩ else bif decide (x.op = 11) || decide (x.op = 12) then ⟨x.op, x.a, x.b, (atN F x.c.toNat : Int), x.n⟩ else x
def trimL (L : List Ins) (F : Fl) : List Ins := (keepG L F).map (reT F)
theorem re_op (F : Fl) (x : Ins) : (reT F x).op = x.op ∧ (reT F x).b = x.b ∧ (reT F x).n = x.n := by
  unfold reT
  cases decide (x.op = 10)
  · cases decide (x.op = 11) || decide (x.op = 12)
    · exact ⟨rfl, rfl, rfl⟩
    · exact ⟨rfl, rfl, rfl⟩
  · exact ⟨rfl, rfl, rfl⟩
theorem re_a (F : Fl) (x : Ins) (h : (shOf x.op).k0 ≠ 4) : (reT F x).a = x.a := by
  unfold reT
  by_cases e : x.op = 10
  · rw [e] at h
    exact absurd rfl h
  · rw [decide_eq_false e, cf]
    cases decide (x.op = 11) || decide (x.op = 12) <;> rfl
theorem re_c (F : Fl) (x : Ins) (h : (shOf x.op).k2 ≠ 4) : (reT F x).c = x.c := by
  unfold reT
  cases decide (x.op = 10)
  · rw [cf]
    by_cases e : x.op = 11 ∨ x.op = 12
    · rcases e with e | e <;> (rw [e] at h; exact absurd rfl h)
    · have hd : (decide (x.op = 11) || decide (x.op = 12)) = false := by simpa [not_or] using e
      rw [hd, cf]
  · rfl
theorem re_reads (F : Fl) (x : Ins) : readsL (reT F x) = readsL x := by
  unfold readsL
  rw [(re_op F x).1, (re_op F x).2.1]
  by_cases h0 : (shOf x.op).k0 = 2
  · rw [re_a F x (by rw [h0]; decide)]
    by_cases h2 : (shOf x.op).k2 = 2
    · rw [re_c F x (by rw [h2]; decide)]
    · rw [decide_eq_false h2]; rfl
  · rw [decide_eq_false h0]
    by_cases h2 : (shOf x.op).k2 = 2
    · rw [re_c F x (by rw [h2]; decide)]; rfl
    · rw [decide_eq_false h2]; rfl
theorem re_writes (F : Fl) (x : Ins) : writesB (reT F x) = writesB x ∧ (writesB x = true → (reT F x).a = x.a) := by
  unfold writesB
  rw [(re_op F x).1]
  exact ⟨rfl, fun h => re_a F x (by rw [of_decide_eq_true h]; decide)⟩
theorem re_out (F : Fl) (x : Ins) (b : Bt) : outB (reT F x) b = outB x b := by
  unfold outB
  obtain ⟨h1, h2⟩ := re_writes F x
  rw [h1]
  cases hw : writesB x with
  | false => rfl
  | true => rw [h2 hw]
theorem re_next {r a i : Int} {L : List Ins} (hok : Okc r a i L) {F : Fl} {j : Nat} {x : Ins} (hx : L[j]? = some x) {b : Bt} (hb : F[j]? = some (some b)) (hl : L.length ≤ 300) :
    nextL (reT F x) (atN F j : Int) = (nextL x (j : Int)).map fun k => (atN F k.toNat : Int) := by
  have hj : j < L.length := (List.getElem?_eq_some_iff.1 hx).1
  have h1 := at_succ F j b hb
  have h2 := at_le F j
  have hw1 : IntKind.i64.wrap ((j : Int) + 1) = ((j + 1 : Nat) : Int) := by rw [wrap64 (by omega) (by omega)]; simp
  have hw2 : IntKind.i64.wrap ((atN F j : Int) + 1) = ((atN F (j + 1) : Nat) : Int) := by rw [wrap64 (by omega) (by omega)]; omega
  unfold nextL
  rw [(re_op F x).1, hw1, hw2]
  cases hh : !isOp x.op || decide (x.op = 0) with
  | true => rfl
  | false =>
    rw [cf, cf]
    by_cases e10 : x.op = 10
    · rw [decide_eq_true e10, ct, ct]
      unfold reT
      rw [decide_eq_true e10, ct]
      rfl
    · rw [decide_eq_false e10, cf, cf]
      by_cases e11 : x.op = 11 ∨ x.op = 12
      · have hd : (decide (x.op = 11) || decide (x.op = 12)) = true := by simpa using e11
        rw [hd, ct, ct]
        unfold reT
        rw [decide_eq_false e10, cf, hd, ct]
        simp
      · have hd : (decide (x.op = 11) || decide (x.op = 12)) = false := by simpa [not_or] using e11
        rw [hd, cf, cf]
        simp
end Go.Proofs.Ytgkdkjjohknfpaa.VM
end

section
namespace Go.Proofs.Ytgkdkjjohknfpaa.VM
set_option linter.unusedSectionVars false
set_option linter.unusedVariables false
open Go AM
theorem next_jump {x : Ins} {j : Nat} (ho : isOp x.op = true) (h : x.op = 10) : x.a ∈ nextL x (j : Int) := by
  unfold nextL
  rw [ho, h]
  simp
theorem next_two {x : Ins} {j : Nat} (ho : isOp x.op = true) (h : x.op = 11 ∨ x.op = 12) : x.c ∈ nextL x (j : Int) := by
  unfold nextL
  rw [ho]
  rcases h with h | h <;> (rw [h]; simp)
theorem next_on {x : Ins} {j : Nat} (hj : j < 100000) (ho : isOp x.op = true) (h0 : x.op ≠ 0) (h1 : x.op ≠ 10) : ((j + 1 : Nat) : Int) ∈ nextL x (j : Int) := by
  have hw : IntKind.i64.wrap ((j : Int) + 1) = ((j + 1 : Nat) : Int) := by rw [wrap64 (by omega) (by omega)]; simp
  unfold nextL
  rw [ho, hw, decide_eq_false h0, decide_eq_false h1]
  cases decide (x.op = 11) || decide (x.op = 12)
  · rw [bNT, bFO, cf, cf, cf]; simp
  · rw [bNT, bFO, cf, cf, ct]; simp
theorem kinds4 (op : Int) (h : isOp op = true) : ((shOf op).k0 = 4 → op = 10) ∧ (shOf op).k1 ≠ 4 ∧ ((shOf op).k2 = 4 → op = 11 ∨ op = 12) := by
  have ho : 0 ≤ op ∧ op < 13 := by
    unfold isOp at h
    simpa using h
  have hc : op = 0 ∨ op = 1 ∨ op = 2 ∨ op = 3 ∨ op = 4 ∨ op = 5 ∨ op = 6 ∨ op = 7 ∨ op = 8 ∨ op = 9 ∨ op = 10 ∨ op = 11 ∨ op = 12 := by omega
  rcases hc with rfl | rfl | rfl | rfl | rfl | rfl | rfl | rfl | rfl | rfl | rfl | rfl | rfl <;> decide +kernel
structure Flow (r a i : Int) (L : List Ins) (F : Fl) : Prop where
  ok : Okc r a i L
  len : L.length ≤ 300
  same : F.length = L.length
  closed : ClosedT L F []
  zero : F[0]? = some (some (0, 0))
theorem Flow.of {r a i : Int} {L : List Ins} {F : Fl} (hok : Okc r a i L) (hl : L.length ≤ 300) (h : FlowOf L F) : Flow r a i L F := by
  have fl := fine_of hok hl
  have h0 : 0 < L.length := Nat.pos_of_ne_zero hok.len0
  obtain ⟨c1, c2, _⟩ := FlowOf.closed fl h0 h
  exact ⟨hok, hl, c1, c2, FlowOf.zero fl h0 h⟩
section
variable {r a i : Int} {L : List Ins} {F : Fl}
theorem Flow.next (h : Flow r a i L F) {j : Nat} {b : Bt} (hb : F[j]? = some (some b)) : ∃ hj : j < L.length, ∀ k ∈ nextL L[j] (j : Int), ∃ n : Nat, k = (n : Int) ∧ n < L.length ∧ ∃ c, F[n]? = some (some c) ∧ SubB c (outB L[j] b) := by
  have hj : j < L.length := by
    rcases Nat.lt_or_ge j F.length with h1 | h1
    · rw [h.same] at h1; exact h1
    · rw [List.getElem?_eq_none h1] at hb; cases hb
  refine ⟨hj, fun k hk => ?_⟩
  obtain ⟨k0, k1⟩ := next_in h.ok (List.getElem?_eq_getElem hj) k hk
  rcases h.closed j hj b hb with h2 | h2
  · cases h2
  · obtain ⟨c, h3, h4⟩ := h2 k hk
    exact ⟨k.toNat, by omega, by omega, c, h3, h4⟩
theorem trim_len (h : Flow r a i L F) : (trimL L F).length = (keepG L F).length := by unfold trimL; exact List.length_map _
theorem trim_at (h : Flow r a i L F) {j : Nat} {b : Bt} (hb : F[j]? = some (some b)) (hj : j < L.length) : (trimL L F)[atN F j]? = some (reT F L[j]) := by
  unfold trimL
  rw [List.getElem?_map, keep_at L F j L[j] b (List.getElem?_eq_getElem hj) hb]
  rfl
theorem trim_of (h : Flow r a i L F) {p : Nat} (hp : p < (trimL L F).length) : ∃ (j : Nat) (b : Bt) (hj : j < L.length), F[j]? = some (some b) ∧ atN F j = p ∧ (trimL L F)[p]? = some (reT F L[j]) := by
  rw [trim_len h] at hp
  obtain ⟨j, b, h1, h2, h3⟩ := keep_of L F h.same p hp
  exact ⟨j, b, h1, h2, h3, by rw [← h3]; exact trim_at h h2 h1⟩
theorem trim_may (h : Flow r a i L F) {j : Nat} {b : Bt} (hb : F[j]? = some (some b)) (hj : j < L.length) : mayB r a ((trimL L F).length : Int) (reT F L[j]) = true := by
  have hm := h.ok.may L[j] (List.getElem_mem hj)
  obtain ⟨ho, hfa, hfb, hfc⟩ := fld_split r a _ _ hm
  obtain ⟨_, hn⟩ := h.next hb
  have hlt : ∀ n c, F[n]? = some (some c) → fldOk (atN F n : Int) ((trimL L F).length : Int) = true := fun n c hc => by
    rw [fldOk_iff, trim_len h]
    have := at_lt h.same hc
    omega
  have hlim : ∀ k n m, k ≠ 4 → lim r a n k = lim r a m k := fun k n m hk => by unfold lim; simp [hk]
  have h4 : ∀ n : Int, lim r a n 4 = n := fun n => by unfold lim; simp
  unfold mayB at hm ⊢
  rw [(re_op F L[j]).1, (re_op F L[j]).2.1, (re_op F L[j]).2.2]
  simp only [Bool.and_eq_true] at hm ⊢
  refine ⟨hm.1, ?_, ?_, ?_, hm.2.2.2.2⟩
  · by_cases e : L[j].op = 10
    · obtain ⟨n, e1, _, c, hc, _⟩ := hn _ (next_jump ho e)
      have : (reT F L[j]).a = (atN F n : Int) := by
        unfold reT
        rw [decide_eq_true e, ct, e1, Int.toNat_natCast]
      rw [this, e]
      show fldOk _ (lim r a _ 4) = true
      rw [h4]
      exact hlt n c hc
    · have hk : (shOf L[j].op).k0 ≠ 4 := fun e4 => e ((kinds4 _ ho).1 e4)
      rw [re_a F _ hk, hlim _ _ (L.length : Int) hk]
      exact hm.2.1
  · rw [hlim _ _ (L.length : Int) (kinds4 _ ho).2.1]
    exact hm.2.2.1
  · by_cases e : L[j].op = 11 ∨ L[j].op = 12
    · obtain ⟨n, e1, _, c, hc, _⟩ := hn _ (next_two ho e)
      have e10 : ¬ L[j].op = 10 := by omega
      have hd : (decide (L[j].op = 11) || decide (L[j].op = 12)) = true := by simpa using e
      have : (reT F L[j]).c = (atN F n : Int) := by
        unfold reT
        rw [decide_eq_false e10, cf, hd, ct, e1, Int.toNat_natCast]
      rw [this]
      have hk : (shOf L[j].op).k2 = 4 := by rcases e with e | e <;> (rw [e]; rfl)
      rw [hk, h4]
      exact hlt n c hc
    · have hk : (shOf L[j].op).k2 ≠ 4 := fun e4 => e ((kinds4 _ ho).2.2 e4)
      rw [re_c F _ hk, hlim _ _ (L.length : Int) hk]
      exact hm.2.2.2.1
theorem at_le2 : ∀ (F : Fl) (j : Nat), atN F j ≤ F.length
  | [], _ => Nat.le_refl _
  | _ :: _, 0 => Nat.zero_le _
  | o :: F, j + 1 => by
    have := at_le2 F j
    rw [at_cons, List.length_cons]
    cases o.isSome
    · rw [cf]; omega
    · rw [ct]; omega
theorem trim_ok (h : Flow r a i L F) : Okc r a i (trimL L F) := by
  have h0 := at_lt (l := L) h.same h.zero
  have hkl := keep_len L F h.same
  have hle := at_le F L.length
  have hl := h.ok.len
  refine ⟨h.ok.r0, h.ok.r1, h.ok.a0, h.ok.a1, h.ok.i0, h.ok.i1, ?_, ?_, fun x hx => ?_, fun x hx => ?_⟩
  · rw [trim_len h]; omega
  · rw [trim_len h]; omega
  · obtain ⟨p, hp, e⟩ := List.mem_iff_getElem.1 hx
    obtain ⟨j, b, hj, hb, _, h2⟩ := trim_of h hp
    rw [List.getElem?_eq_getElem hp, e] at h2
    rw [Option.some.inj h2]
    exact trim_may h hb hj
  · rw [List.getLast?_eq_getElem?] at hx
    have hp : (trimL L F).length - 1 < (trimL L F).length := by rw [trim_len h]; omega
    obtain ⟨j, b, hj, hb, h1, h2⟩ := trim_of h hp
    rw [hx] at h2
    rw [Option.some.inj h2, (re_op F L[j]).1]
    refine Classical.byContradiction fun hc => ?_
    obtain ⟨ho, _⟩ := fld_split r a _ _ (h.ok.may L[j] (List.getElem_mem hj))
    obtain ⟨_, hn⟩ := h.next hb
    obtain ⟨n, e1, _, c, h3, _⟩ := hn _ (next_on (by omega) ho (fun e => hc (.inl e)) fun e => hc (.inr e))
    have e2 : n = j + 1 := by omega
    subst e2
    have h4 := at_lt (l := L) h.same h3
    rw [at_succ F j b hb, ← trim_len h] at h4
    omega
theorem keep_closed (h : Flow r a i L F) : ClosedT (trimL L F) (keepG F F) [] := by
  intro p hp b hb
  right
  obtain ⟨j, b2, hj, hb2, h1, h2⟩ := trim_of h hp
  have e : (trimL L F)[p] = reT F L[j] := by rw [List.getElem?_eq_getElem hp] at h2; exact Option.some.inj h2
  have h3 := keep_at F F j (some b2) b2 hb2 hb2
  rw [h1, hb] at h3
  have e2 : b = b2 := by cases h3; rfl
  subst e2
  rw [e, re_out]
  intro k hk
  rw [← h1, re_next h.ok (List.getElem?_eq_getElem hj) hb2 h.len] at hk
  obtain ⟨q, hq, rfl⟩ := List.mem_map.1 hk
  obtain ⟨_, hn⟩ := h.next hb2
  obtain ⟨n, rfl, _, c, h4, h5⟩ := hn q hq
  refine ⟨c, ?_, h5⟩
  rw [Int.toNat_natCast, Int.toNat_natCast]
  exact keep_at F F n (some c) c h4 h4
def spread (F G : Fl) : Fl := (List.range F.length).map fun j => match F[j]? with | some (some _) => (G[atN F j]?).getD none | _ => none
theorem spread_at {F G : Fl} {j : Nat} {b : Bt} (hb : F[j]? = some (some b)) : (spread F G)[j]? = some ((G[atN F j]?).getD none) := by
  have hj : j < F.length := by
    rcases Nat.lt_or_ge j F.length with h1 | h1
    · exact h1
    · rw [List.getElem?_eq_none h1] at hb; cases hb
  unfold spread
  rw [List.getElem?_map, List.getElem?_range hj, Option.map_some, hb]
theorem spread_of {F G : Fl} {j : Nat} {d : Bt} (h : (spread F G)[j]? = some (some d)) : (∃ b, F[j]? = some (some b)) ∧ G[atN F j]? = some (some d) := by
  have hj : j < F.length := by
    rcases Nat.lt_or_ge j F.length with h1 | h1
    · exact h1
    · rw [List.getElem?_eq_none (by unfold spread; simpa using h1)] at h; cases h
  unfold spread at h
  rw [List.getElem?_map, List.getElem?_range hj, Option.map_some] at h
  have h := Option.some.inj h
  split at h
  · rename_i b hb
    refine ⟨⟨b, hb⟩, ?_⟩
    cases hg : G[atN F j]? with
    | none => rw [hg] at h; cases h
    | some o => rw [hg] at h; rw [Option.getD_some] at h; rw [h]
  · cases h
theorem spread_closed (h : Flow r a i L F) {G : Fl} (hG : ClosedT (trimL L F) G []) : ClosedT L (spread F G) [] := by
  intro j hj d hd
  right
  obtain ⟨⟨b, hb⟩, h1⟩ := spread_of hd
  obtain ⟨_, hn⟩ := h.next hb
  have h2 := trim_at h hb hj
  have hp : atN F j < (trimL L F).length := by rw [trim_len h]; exact at_lt h.same hb
  have e : (trimL L F)[atN F j] = reT F L[j] := by rw [List.getElem?_eq_getElem hp] at h2; exact Option.some.inj h2
  rcases hG _ hp d h1 with h3 | h3
  · cases h3
  · intro k hk
    obtain ⟨n, rfl, _, c, h4, _⟩ := hn k hk
    obtain ⟨g, h5, h6⟩ := h3 (atN F n : Int) (by
      rw [e, re_next h.ok (List.getElem?_eq_getElem hj) hb h.len]
      exact List.mem_map.2 ⟨(n : Int), hk, by rw [Int.toNat_natCast]⟩)
    rw [Int.toNat_natCast] at h5
    rw [e, re_out] at h6
    refine ⟨g, ?_, h6⟩
    rw [Int.toNat_natCast, spread_at h4, h5]
    rfl
theorem trim_flow (h : Flow r a i L F) (hF : FlowOf L F) {G : Fl} (hG : FlowOf (trimL L F) G) : G = keepG F F := by
  have hle := at_le F L.length
  have hkl := keep_len L F h.same
  have hkf : (keepG F F).length = (keepG L F).length := by rw [keep_len F F rfl, hkl, h.same]
  have hl2 : (trimL L F).length ≤ 300 := by rw [trim_len h]; have := h.len; omega
  have g := Flow.of (trim_ok h) hl2 hG
  have low1 : LowT (keepG F F) G := FlowOf.low (fine_of (trim_ok h) hl2) hG (keep_closed h) ⟨(0, 0), by
    have := keep_at F F 0 (some (0, 0)) (0, 0) h.zero h.zero
    rwa [at_zero] at this, SubB.refl _⟩
  have low2 : LowT (spread F G) F := FlowOf.low (fine_of h.ok h.len) hF (spread_closed h g.closed) ⟨(0, 0), by
    rw [spread_at h.zero, at_zero, g.zero]
    rfl, SubB.refl _⟩
  refine List.ext_getElem? fun p => ?_
  by_cases hp : p < (trimL L F).length
  · obtain ⟨j, b, hj, hb, h1, _⟩ := trim_of h hp
    subst h1
    obtain ⟨d, h2, h3⟩ := low2 j b hb
    obtain ⟨_, h4⟩ := spread_of h2
    obtain ⟨c, h5, h6⟩ := low1 _ d h4
    have h7 := keep_at F F j (some b) b hb hb
    rw [h7] at h5
    cases h5
    rw [h4, h7, h3.anti h6]
  · rw [List.getElem?_eq_none (by rw [g.same]; omega), List.getElem?_eq_none (by rw [hkf, ← trim_len h]; omega)]
theorem trim_trim (h : Flow r a i L F) : trimL (trimL L F) (keepG F F) = trimL L F := by
  have ha : AllR (keepG F F) := keep_allR F F rfl
  have hkl := keep_len L F h.same
  have hkf : (keepG F F).length = (trimL L F).length := by rw [keep_len F F rfl, trim_len h, hkl, h.same]
  have hok := trim_ok h
  rw [trimL, keep_all _ _ hkf ha]
  conv => rhs; rw [← List.map_id (trimL L F)]
  refine List.map_congr_left fun x hx => ?_
  have hm := hok.may x hx
  obtain ⟨ho, hfa, hfb, hfc⟩ := fld_split r a _ _ hm
  show reT (keepG F F) x = x
  have h4 : ∀ n : Int, lim r a n 4 = n := fun n => by unfold lim; simp
  unfold reT
  by_cases e : x.op = 10
  · rw [decide_eq_true e, ct]
    have hk : (shOf x.op).k0 = 4 := by rw [e]; rfl
    rw [hk, h4, fldOk_iff] at hfa
    rw [at_all _ _ ha (by omega), (by omega : ((x.a.toNat : Nat) : Int) = x.a)]
  · rw [decide_eq_false e, cf]
    by_cases e2 : x.op = 11 ∨ x.op = 12
    · have hd : (decide (x.op = 11) || decide (x.op = 12)) = true := by simpa using e2
      rw [hd, ct]
      have hk : (shOf x.op).k2 = 4 := by rcases e2 with e2 | e2 <;> (rw [e2]; rfl)
      rw [hk, h4, fldOk_iff] at hfc
      rw [at_all _ _ ha (by omega), (by omega : ((x.c.toNat : Nat) : Int) = x.c)]
    · have hd : (decide (x.op = 11) || decide (x.op = 12)) = false := by simpa [not_or] using e2
      rw [hd, cf]
end
end Go.Proofs.Ytgkdkjjohknfpaa.VM
end
