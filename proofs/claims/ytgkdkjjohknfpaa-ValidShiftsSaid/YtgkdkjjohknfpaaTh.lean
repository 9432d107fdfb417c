/- Merged: Th3 Th4. Conditions: none. -/
import Derived.Test.YtgkdkjjohknfpaaTg
set_option linter.all false
section
namespace Go.Proofs.Ytgkdkjjohknfpaa.VM
set_option linter.unusedSectionVars false
set_option linter.unusedVariables false
open Go AM
theorem low_eq {F G : Fl} (hl : F.length = G.length) (a1 : LowT F G) (a2 : LowT G F) : F = G := by
 refine List.ext_getElem? fun q => ?_
 cases e1 : F[q]? with
 | none =>
  rw [List.getElem?_eq_none_iff] at e1
  rw [List.getElem?_eq_none (by omega)]
 | some o1 =>
  cases e2 : G[q]? with
  | none =>
   rw [List.getElem?_eq_none_iff] at e2
   rw [List.getElem?_eq_none (by omega)] at e1
   cases e1
  | some o2 =>
   cases o1 with
   | none =>
    cases o2 with
    | none => rfl
    | some c =>
     obtain ⟨d, e3, _⟩ := a1 q c e2
     rw [e1] at e3
     cases e3
   | some b =>
    obtain ⟨d, e3, h1⟩ := a2 q b e1
    rw [e2] at e3
    cases e3
    obtain ⟨d2, e4, h2⟩ := a1 q d e2
    rw [e1] at e4
    cases e4
    rw [h1.anti h2]
theorem jump_at {n j : Nat} (h : j < n) : (jumps n)[j]? = some ⟨10, ((j + 1 : Nat) : Int), 0, 0, 0⟩ := by
 unfold jumps
 rw [List.getElem?_map, List.getElem?_range h]
 rfl
theorem next_jumps (j : Nat) (i : Int) : nextL ⟨10, ((j + 1 : Nat) : Int), 0, 0, 0⟩ i = [((j + 1 : Nat) : Int)] := by
 unfold nextL
 have e4 : isOp 10 = true := rfl
 show (bif !isOp 10 || decide ((10 : Int) = 0) then [] else bif decide ((10 : Int) = 10) then _ else _) = _
 rw [e4]
 rfl
theorem out_jumps (j : Nat) (b : Bt) : outB ⟨10, ((j + 1 : Nat) : Int), 0, 0, 0⟩ b = b := rfl
abbrev shC (n : Nat) (L : List Ins) : List Ins := jumps n ++ L.map (shI (n : Int))
abbrev shF (n : Nat) (F : Fl) : Fl := List.replicate n (some (0, 0)) ++ F
theorem shC_len (n : Nat) (L : List Ins) : (shC n L).length = n + L.length := by rw [List.length_append, jumps_len, List.length_map]
theorem shC_low {n j : Nat} (L : List Ins) (h : j < n) (hj : j < (shC n L).length) : (shC n L)[j] = ⟨10, ((j + 1 : Nat) : Int), 0, 0, 0⟩ := by
 have h1 : (shC n L)[j]? = some ⟨10, ((j + 1 : Nat) : Int), 0, 0, 0⟩ := by rw [List.getElem?_append_left (by rw [jumps_len]; exact h)]; exact jump_at h
 rw [List.getElem?_eq_getElem hj] at h1
 exact Option.some.inj h1
theorem shC_high {n q : Nat} {L : List Ins} (h : q < L.length) (hj : n + q < (shC n L).length) : (shC n L)[n + q] = shI (n : Int) L[q] := by
 have h1 : (shC n L)[n + q]? = some (shI (n : Int) L[q]) := by
  rw [List.getElem?_append_right (by rw [jumps_len]; omega), jumps_len, List.getElem?_map, show n + q - n = q by omega, List.getElem?_eq_getElem h]
  rfl
 rw [List.getElem?_eq_getElem hj] at h1
 exact Option.some.inj h1
theorem out_shift (n : Int) (x : Ins) (b : Bt) : outB (shI n x) b = outB x b := by
 obtain ⟨h1, h2⟩ := writes_shift n x
 unfold outB
 rw [h1]
 cases hw : writesB x with
 | false => rfl
 | true =>
  rw [hw, ct, ct] at h2
  rw [ct, ct, h2]
theorem next_sh {r a m : Int} {x : Ins} (h : mayB r a m x = true) (hm : m ≤ 4096) {n q : Nat} (hn : n ≤ 1000) (hq : q ≤ 1000) : nextL (shI (n : Int) x) ((n + q : Nat) : Int) = (nextL x (q : Int)).map (fun v => IntKind.i64.wrap (v + (n : Int))) := by
 have := next_shift h hm (b := (n : Int)) (at_ := (q : Int)) (by omega) (by omega) (by omega) (by omega)
 rw [this]
 congr 1
theorem shF_low {n j : Nat} (F : Fl) (h : j < n) : (shF n F)[j]? = some (some (0, 0)) := by
 rw [List.getElem?_append_left (by rw [List.length_replicate]; exact h), List.getElem?_replicate, if_pos h]
theorem shF_high {n q : Nat} (F : Fl) : (shF n F)[n + q]? = F[q]? := by
 rw [List.getElem?_append_right (by rw [List.length_replicate]; omega), List.length_replicate, show n + q - n = q by omega]
section
variable {r a i : Int} {L : List Ins} {F : Fl} {n : Nat}
theorem sh_closed (hok : Okc r a i L) (hl : L.length ≤ 400) (hn : n ≤ 400) (hF : F.length = L.length) (hc : ClosedT L F []) (hz : F[0]? = some (some (0, 0))) : ClosedT (shC n L) (shF n F) [] := by
 intro j hj b hb
 right
 intro k hk
 have hlen := shC_len n L
 rcases Nat.lt_or_ge j n with h | h
 ·rw [shC_low L h hj, next_jumps] at hk
  rw [shC_low L h hj, out_jumps]
  rw [shF_low F h] at hb
  cases hb
  have : k = ((j + 1 : Nat) : Int) := by simpa using hk
  subst this
  rw [Int.toNat_natCast]
  refine ⟨(0, 0), ?_, SubB.refl _⟩
  rcases Nat.lt_or_ge (j + 1) n with h1 | h1
  ·exact shF_low F h1
  ·have : j + 1 = n + 0 := by omega
   rw [this, shF_high]
   exact hz
 ·obtain ⟨q, rfl⟩ : ∃ q, j = n + q := ⟨j - n, by omega⟩
  have hq : q < L.length := by omega
  rw [shC_high hq hj, next_sh (hok.may L[q] (List.getElem_mem hq)) (by omega) (by omega) (by omega)] at hk
  rw [shC_high hq hj, out_shift]
  rw [shF_high] at hb
  obtain ⟨v, hv, rfl⟩ := List.mem_map.1 hk
  obtain ⟨v0, v1⟩ := next_in hok (List.getElem?_eq_getElem hq) v hv
  rw [wrap64 (by omega) (by omega)]
  rcases hc q hq b hb with h2 | h2
  ·cases h2
  ·obtain ⟨c, h3, h4⟩ := h2 v hv
   refine ⟨c, ?_, h4⟩
   rw [show (v + (n : Int)).toNat = n + v.toNat by omega, shF_high]
   exact h3
theorem sh_fine (hok : Okc r a i L) (hl : L.length ≤ 300) (hn : n ≤ 100) : Okc r a i (shC n L) ∧ FineL (shC n L) := by
 have h := okc_shift hok n (by omega)
 exact ⟨h, fine_of h (by rw [shC_len]; omega)⟩
theorem sh_flow (hok : Okc r a i L) (hl : L.length ≤ 300) (hn : n ≤ 100) (hf : FlowOf L F) {H : Fl} (hh : FlowOf (shC n L) H) : H = shF n F := by
 have fl := fine_of hok (by omega : L.length ≤ 400)
 have h0 : 0 < L.length := Nat.pos_of_ne_zero hok.len0
 obtain ⟨c1, c2, _⟩ := FlowOf.closed fl h0 hf
 have c3 := FlowOf.zero fl h0 hf
 obtain ⟨ok2, fl2⟩ := sh_fine hok hl hn
 have hlen := shC_len n L
 obtain ⟨d1, d2, _⟩ := FlowOf.closed fl2 (by omega) hh
 have d3 := FlowOf.zero fl2 (by omega) hh
 have hcl := sh_closed (n := n) hok (by omega) (by omega) c1 c2 c3
 have hz0 : (shF n F)[0]? = some (some (0, 0)) := by
  rcases Nat.eq_zero_or_pos n with e | e
  ·subst e; exact c3
  ·exact shF_low F e
 have a1 : LowT (shF n F) H := FlowOf.low fl2 hh hcl ⟨(0, 0), hz0, SubB.refl _⟩
 have hj : ∀ j, j ≤ n → ∃ d, H[j]? = some (some d) ∧ SubB d (0, 0) := by
  intro j
  induction j with
  | zero => exact fun _ => ⟨_, d3, SubB.refl _⟩
  | succ j ih =>
   intro hle
   obtain ⟨d, e1, e2⟩ := ih (by omega)
   have hjl : j < (shC n L).length := by omega
   rcases d2 j hjl d e1 with h | h
   ·cases h
   ·obtain ⟨c, e3, e4⟩ := h ((j + 1 : Nat) : Int) (by rw [shC_low L (by omega) hjl, next_jumps]; simp)
    rw [Int.toNat_natCast] at e3
    rw [shC_low L (by omega) hjl, out_jumps] at e4
    exact ⟨c, e3, e4.trans e2⟩
 have hH : ClosedT L (H.drop n) [] := by
  intro q hq b hb
  right
  rw [List.getElem?_drop] at hb
  have hjl : n + q < (shC n L).length := by omega
  rcases d2 (n + q) hjl b hb with h | h
  ·cases h
  ·intro v hv
   obtain ⟨v0, v1⟩ := next_in hok (List.getElem?_eq_getElem hq) v hv
   obtain ⟨c, e3, e4⟩ := h (v + (n : Int)) (by
    rw [shC_high hq hjl, next_sh (hok.may L[q] (List.getElem_mem hq)) (by omega) (by omega) (by omega)]
    exact List.mem_map.2 ⟨v, hv, wrap64 (by omega) (by omega)⟩)
   rw [shC_high hq hjl, out_shift] at e4
   refine ⟨c, ?_, e4⟩
   rw [List.getElem?_drop, show n + v.toNat = (v + (n : Int)).toNat by omega]
   exact e3
 obtain ⟨dn, en1, en2⟩ := hj n (Nat.le_refl _)
 have a3 : LowT (H.drop n) F := FlowOf.low fl hf hH ⟨dn, by rw [List.getElem?_drop, Nat.add_zero]; exact en1, en2⟩
 have a2 : LowT H (shF n F) := by
  intro k c hk
  rcases Nat.lt_or_ge k n with h | h
  ·rw [shF_low F h] at hk
   cases hk
   exact hj k (by omega)
  ·obtain ⟨q, rfl⟩ : ∃ q, k = n + q := ⟨k - n, by omega⟩
   rw [shF_high] at hk
   obtain ⟨d, e1, e2⟩ := a3 q c hk
   rw [List.getElem?_drop] at e1
   exact ⟨d, e1, e2⟩
 refine low_eq ?_ a2 a1
 rw [d1, hlen, List.length_append, List.length_replicate, c1]
theorem sh_asks (hF : F.length = L.length) : askL (shC n L) (shF n F) 0 = [] ↔ askL L F 0 = [] := by
 have hlen := shC_len n L
 rw [ask_nil _ _ 0 (by rw [hlen, List.length_append, List.length_replicate, hF]), ask_nil _ _ 0 hF]
 constructor
 ·intro h k hk b hb
  have := h (n + k) (by omega) b (by rw [shF_high]; exact hb)
  rw [shC_high hk (by omega)] at this
  unfold asksB at this ⊢
  rw [reads_shift] at this
  exact this
 ·intro h k hk b hb
  rcases Nat.lt_or_ge k n with h1 | h1
  ·rw [shC_low L h1 hk]
   rfl
  ·obtain ⟨q, rfl⟩ : ∃ q, k = n + q := ⟨k - n, by omega⟩
   have hq : q < L.length := by omega
   rw [shF_high] at hb
   rw [shC_high hq hk]
   unfold asksB
   rw [reads_shift]
   exact h q hq b hb
theorem sh_bad : (shC n L).any (badB i) = L.any (badB i) := by
 rw [List.any_append]
 have h1 : (jumps n).any (badB i) = false := by
  rw [List.any_eq_false]
  intro x hx
  unfold jumps at hx
  obtain ⟨j, _, rfl⟩ := List.mem_map.1 hx
  exact Bool.false_ne_true
 rw [h1, Bool.false_or, List.any_map]
 congr 1
 funext x
 show badB i (shI (n : Int) x) = badB i x
 unfold badB
 have e : (shI (n : Int) x).op = x.op := rfl
 rw [e]
 by_cases e7 : x.op = 7 ∨ x.op = 9
 ·have : (shI (n : Int) x).a = x.a := by
   show (bif decide ((shOf x.op).k0 = 4) then IntKind.i64.wrap (x.a + (n : Int)) else x.a) = _
   rcases e7 with e | e <;> rw [e] <;> rfl
  rw [this]
 ·have hd : (decide (x.op = 7) || decide (x.op = 9)) = false := by simpa [not_or] using e7
  rw [hd]
  rfl
end
/-! ### places -/
theorem place_app (p : Ins → Int → Bool) : ∀ (A B : List Ins) (FA FB : Fl) (j : Nat), FA.length = A.length → placeL p (A ++ B) (FA ++ FB) j = placeL p A FA j ++ placeL p B FB (j + A.length)
 | [], B, FA, FB, j, h => by
  have : FA = [] := List.length_eq_zero_iff.1 h
  subst this
  rfl
 | x :: A, B, [], FB, j, h => by simp at h
 | x :: A, B, o :: FA, FB, j, h => by
  rw [List.cons_append, List.cons_append, places_cons, places_cons, place_app p A B FA FB (j + 1) (by simpa using h), List.append_assoc, List.length_cons, show j + 1 + A.length = j + (A.length + 1) by omega]
theorem place_none (p : Ins → Int → Bool) : ∀ (A : List Ins) (FA : Fl) (j : Nat), (∀ k (h : k < A.length), p A[k] ((j + k : Nat) : Int) = false) → placeL p A FA j = []
 | [], FA, j, _ => by cases FA <;> rfl
 | x :: A, [], j, _ => rfl
 | x :: A, o :: FA, j, h => by
  rw [places_cons, place_none p A FA (j + 1) fun k hk => by
   have := h (k + 1) (by simpa using hk)
   rw [show j + 1 + k = j + (k + 1) by omega]
   exact this]
  have := h 0 (by simp)
  have : p x (j : Int) = false := this
  rw [this]
  cases o.isSome <;> rfl
theorem back_shift {r a m : Int} {x : Ins} (h : mayB r a m x = true) (hm : m ≤ 4096) {n q : Nat} (hn : n ≤ 1000) (hq : q ≤ 1000) (hv : ∀ v ∈ nextL x (q : Int), 0 ≤ v ∧ v < 5000) : backsB (shI (n : Int) x) ((n + q : Nat) : Int) = backsB x (q : Int) := by
 unfold backsB
 rw [next_sh h hm hn hq, List.any_map]
 rw [Bool.eq_iff_iff, List.any_eq_true, List.any_eq_true]
 constructor
 ·rintro ⟨v, h1, h2⟩
  obtain ⟨v0, v1⟩ := hv v h1
  refine ⟨v, h1, ?_⟩
  have h2 : decide (IntKind.i64.wrap (v + (n : Int)) ≤ ((n + q : Nat) : Int)) = true := h2
  rw [wrap64 (by omega) (by omega)] at h2
  have := of_decide_eq_true h2
  exact decide_eq_true (by omega)
 ·rintro ⟨v, h1, h2⟩
  obtain ⟨v0, v1⟩ := hv v h1
  refine ⟨v, h1, ?_⟩
  show decide (IntKind.i64.wrap (v + (n : Int)) ≤ ((n + q : Nat) : Int)) = true
  rw [wrap64 (by omega) (by omega)]
  have := of_decide_eq_true h2
  exact decide_eq_true (by omega)
theorem place_shift (n : Nat) (p p' : Ins → Int → Bool) (g : Ins → Ins) : ∀ (L : List Ins) (F : Fl) (j : Nat), (∀ k (h : k < L.length), p' (g L[k]) ((n + (j + k) : Nat) : Int) = p L[k] ((j + k : Nat) : Int)) → placeL p' (L.map g) F (n + j) = (placeL p L F j).map (· + (n : Int))
 | [], F, j, _ => by cases F <;> rfl
 | x :: L, [], j, _ => rfl
 | x :: L, o :: F, j, h => by
  have ih := place_shift n p p' g L F (j + 1) fun k hk => by
   have := h (k + 1) (by simpa using hk)
   rw [show j + 1 + k = j + (k + 1) by omega]
   exact this
  have h0 : p' (g x) ((n + j : Nat) : Int) = p x (j : Int) := h 0 (by simp)
  rw [List.map_cons, places_cons, places_cons, show n + j + 1 = n + (j + 1) by omega, ih, h0, List.map_append]
  congr 1
  cases (o.isSome && p x (j : Int)) with
  | true => show [((n + j : Nat) : Int)] = [(j : Int) + (n : Int)]; congr 1; omega
  | false => rfl
theorem place_lt {p : Ins → Int → Bool} {k : Int} : ∀ {L : List Ins} {F : Fl} {j : Nat}, k ∈ placeL p L F j → 0 ≤ k ∧ k < ((j + L.length : Nat) : Int)
 | [], F, j, h => by cases F <;> cases h
 | x :: L, [], j, h => by cases h
 | x :: L, o :: F, j, h => by
  rw [places_cons] at h
  rcases List.mem_append.1 h with h | h
  ·cases hb : (o.isSome && p x (j : Int)) with
   | true =>
    rw [hb, ct] at h
    have : k = (j : Int) := by simpa using h
    subst this
    simp only [List.length_cons]
    omega
   | false => rw [hb] at h; cases h
  ·have := place_lt h
   simp only [List.length_cons]
   omega
theorem place_len (p : Ins → Int → Bool) : ∀ (L : List Ins) (F : Fl) (j : Nat), (placeL p L F j).length ≤ L.length
 | [], F, j => by cases F <;> exact Nat.le_refl _
 | x :: L, [], j => Nat.zero_le _
 | x :: L, o :: F, j => by
  have := place_len p L F (j + 1)
  rw [places_cons, List.length_append, List.length_cons]
  cases (o.isSome && p x (j : Int)) <;> simp <;> omega
theorem sh_places {r a i : Int} {L : List Ins} {F : Fl} {n : Nat} (hok : Okc r a i L) (hl : L.length ≤ 400) (hn : n ≤ 400) : placeL backsB (shC n L) (shF n F) 0 = (placeL backsB L F 0).map (· + (n : Int)) := by
 rw [place_app _ _ _ _ _ _ (by rw [List.length_replicate, jumps_len]), place_none _ (jumps n) _ 0 fun k hk => ?_, List.nil_append, jumps_len, Nat.zero_add]
 ·exact place_shift n backsB backsB (shI (n : Int)) L F 0 fun k hk => by
   rw [Nat.zero_add]
   exact back_shift (hok.may L[k] (List.getElem_mem hk)) (by omega) (by omega) (by omega) fun v hv => by
    have := next_in hok (List.getElem?_eq_getElem hk) v hv
    omega
 ·have hk' : k < n := by rw [jumps_len] at hk; exact hk
  have h1 := jump_at hk'
  rw [List.getElem?_eq_getElem hk] at h1
  rw [Option.some.inj h1, Nat.zero_add]
  unfold backsB
  rw [next_jumps]
  show (decide (((k + 1 : Nat) : Int) ≤ (k : Int)) || false) = false
  rw [decide_eq_false (by omega)]
  rfl
end Go.Proofs.Ytgkdkjjohknfpaa.VM
end

section
namespace Go.Proofs.Ytgkdkjjohknfpaa.VM
set_option linter.unusedSectionVars false
set_option linter.unusedVariables false
open Go AM
theorem shiftV_ok {r a i : Int} {l : List Ins} (h : Okc r a i l) (n : Nat) (hn : l.length + n ≤ 4096) : shiftV r a i l (n : Int) = .tup [.t (cdT r a i true (shC n l)), .t (.int .i64 0)] := by
 unfold shiftV
 rw [(check_iff r a i l).2 h, decide_eq_false (by omega : ¬ (n : Int) < 0), decide_eq_false (by omega : ¬ (4096 : Int) < (n : Int)), decide_eq_false (by omega : ¬ (4096 : Int) < (l.length : Int) + (n : Int)), Int.toNat_natCast]
 rfl
theorem mod40 (n : Int) (h : -9223372036854775808 ≤ n ∧ n < 9223372036854775808) : ∃ k : Nat, k < 40 ∧ Int.tmod (IntKind.i64.wrap (Int.tmod n 40 + 40)) 40 = (k : Int) := by
 have h1 : -40 < Int.tmod n 40 ∧ Int.tmod n 40 < 40 := by
  have a1 := Int.lt_tmod_of_pos n (by omega : (0 : Int) < 40)
  have a2 := Int.tmod_lt_of_pos n (by omega : (0 : Int) < 40)
  omega
 rw [wrap64 (by omega) (by omega)]
 have h2 : 0 ≤ Int.tmod (Int.tmod n 40 + 40) 40 := Int.tmod_nonneg _ (by omega)
 have h3 : Int.tmod (Int.tmod n 40 + 40) 40 < 40 := Int.tmod_lt_of_pos _ (by omega)
 exact ⟨(Int.tmod (Int.tmod n 40 + 40) 40).toNat, by omega, by omega⟩
theorem L22_9_self (A : List T) (z1 z2 : Bool) (j : Nat) (zj : Bool) (lj : List Int) (hA : A[j]? = some (.list 1 zj (ints lj))) (hb : lj.length ≤ 1000) (t13 : Int) : ∀ (m k : Nat), m + k = lj.length →
  L22_9 z1 A z2 A (j : Int) t13 (j : Int) ((lj.length : Nat) : Int) (k : Int) = L22_4 z1 A z2 A t13 (IntKind.i64.wrap ((j : Int) + 1))
 | 0, k, h => by
  have d : decide ((k : Int) < ((lj.length : Nat) : Int)) = false := decide_eq_false (by omega)
  rw [L22_9_eq, RL22_9, d, cf]
 | m + 1, k, h => by
  have hlt : k < lj.length := by omega
  have d : decide ((k : Int) < ((lj.length : Nat) : Int)) = true := decide_eq_true (by omega)
  have n0 : decide ((0 : Int) ≤ (j : Int)) = true := decide_eq_true (by omega)
  have n1 : decide ((0 : Int) ≤ (k : Int)) = true := decide_eq_true (by omega)
  have hw : IntKind.i64.wrap ((k : Int) + 1) = ((k + 1 : Nat) : Int) := by rw [wrap64 (by omega) (by omega)]; simp
  rw [L22_9_eq, RL22_9, d, ct, needC_true n0, Int.toNat_natCast, getT_at hA, asL_list, needC_true n1, Int.toNat_natCast, getT_at (ints_at hlt), asI_int, needC_true n0, getT_at hA, asL_list, needC_true n1, getT_at (ints_at hlt), asI_int, decide_eq_true rfl, bNT, cf, hw]
  exact L22_9_self A z1 z2 j zj lj hA hb t13 m (k + 1) (by omega)
theorem L22_4_self (A : List T) (z1 z2 : Bool) (hA : ∀ j, j < A.length → ∃ z l, A[j]? = some (.list 1 z (ints l)) ∧ l.length ≤ 1000) (hb : A.length ≤ 1000) : ∀ (m j : Nat), m + j = A.length →
  L22_4 z1 A z2 A (A.length : Int) (j : Int) = some (.t (.bool true), e0)
 | 0, j, h => by
  have d : decide ((j : Int) < (A.length : Int)) = false := decide_eq_false (by omega)
  rw [L22_4_eq, RL22_4, d, cf]
 | m + 1, j, h => by
  obtain ⟨zj, lj, h1, h2⟩ := hA j (by omega)
  have d : decide ((j : Int) < (A.length : Int)) = true := decide_eq_true (by omega)
  have n0 : decide ((0 : Int) ≤ (j : Int)) = true := decide_eq_true (by omega)
  have hw : IntKind.i64.wrap ((j : Int) + 1) = ((j + 1 : Nat) : Int) := by rw [wrap64 (by omega) (by omega)]; simp
  have h9 := L22_9_self A z1 z2 j zj lj h1 h2 (A.length : Int) lj.length 0 (by omega)
  have h00 : ((0 : Nat) : Int) = 0 := rfl
  rw [h00, hw] at h9
  rw [L22_4_eq, RL22_4, d, ct, needC_true n0, Int.toNat_natCast, getT_at h1, asL_list, needC_true n0, getT_at h1, asL_list, decide_eq_true rfl, bNT, cf, needC_true n0, getT_at h1, asL_list, ints_len, h9]
  exact L22_4_self A z1 z2 hA hb m (j + 1) (by omega)
theorem lists22 (A : List T) (z1 z2 : Bool) (hA : ∀ j, j < A.length → ∃ z l, A[j]? = some (.list 1 z (ints l)) ∧ l.length ≤ 1000) (hb : A.length ≤ 1000) : vr 22 0 [.t (.list 1 z1 A), .t (.list 1 z2 A)] e0 = some (.t (.bool true), e0) := by
 rw [eq22, R22, decide_eq_true rfl, bNT, cf]
 exact L22_4_self A z1 z2 hA hb A.length 0 (by omega)
theorem L6_15_spec (n : Nat) (hn : n ≤ 400) (z1 z2 : Bool) (l : List Int) (hl : l.length ≤ 1000) (hv : ∀ k ∈ l, 0 ≤ k ∧ k < 1000) : ∀ (m j : Nat), m + j = l.length →
  L6_15 (n : Int) true z1 (ints l) z2 (ints (l.map (· + (n : Int)))) ((l.length : Nat) : Int) (j : Int) = some (.t (.bool true), e0)
 | 0, j, h => by
  have d : decide ((j : Int) < ((l.length : Nat) : Int)) = false := decide_eq_false (by omega)
  rw [L6_15_eq, RL6_15, d, cf]
 | m + 1, j, h => by
  have hlt : j < l.length := by omega
  have d : decide ((j : Int) < ((l.length : Nat) : Int)) = true := decide_eq_true (by omega)
  have n0 : decide ((0 : Int) ≤ (j : Int)) = true := decide_eq_true (by omega)
  have hw : IntKind.i64.wrap ((j : Int) + 1) = ((j + 1 : Nat) : Int) := by rw [wrap64 (by omega) (by omega)]; simp
  have hg : (ints (l.map (· + (n : Int))))[j]? = some (.int .i64 (l[j] + (n : Int))) := by
   unfold ints
   rw [List.getElem?_map, List.getElem?_map, List.getElem?_eq_getElem hlt]
   rfl
  obtain ⟨v0, v1⟩ := hv l[j] (List.getElem_mem hlt)
  have hw2 : IntKind.i64.wrap (l[j] + (n : Int)) = l[j] + (n : Int) := wrap64 (by omega) (by omega)
  rw [L6_15_eq, RL6_15, d, ct, needC_true n0, Int.toNat_natCast, getT_at hg, asI_int, needC_true n0, getT_at (ints_at hlt), asI_int, hw2, decide_eq_true rfl, bNT, cf, hw]
  exact L6_15_spec n hn z1 z2 l hl hv m (j + 1) (by omega)
theorem sets_at (R : Nat) (hR : R ≤ 1000) (F : Fl) : ∀ j, j < (setsF R F).length → ∃ z l, (setsF R F)[j]? = some (.list 1 z (ints l)) ∧ l.length ≤ 1000 := by
 intro j hj
 unfold setsF at hj ⊢
 rw [List.length_map] at hj
 refine ⟨_, setO R F[j], by rw [List.getElem?_map, List.getElem?_eq_getElem hj]; rfl, ?_⟩
 cases F[j] with
 | none => exact Nat.zero_le _
 | some b => have := setR_len b R 0; show (setR b 0 R).length ≤ 1000; omega
theorem vshifts_spec (x0 : T) (f0 : FitT codeTy true x0) (a1 : Int) (w1 : (Lit.int .i64 a1).wf = true) : ∃ st, vr 6 0 [.t x0, .t (.int .i64 a1)] ⟨[], []⟩ = some (.t (.bool true), st) := by
 obtain ⟨r, a, i, z, L, rfl, _, _, _⟩ := code_of f0
 refine ⟨e0, ?_⟩
 have h8 := live8
 have hf := few13 r a i z L
 have hc := check14 r a i z L
 obtain ⟨n, hn, en⟩ := mod40 a1 (wf64 w1)
 have hu : cdT r a i z L = .agg [.int .i64 r, .int .i64 a, .int .i64 i, .list 5 z (L.map insT)] := rfl
 have hus : cdT r a i true (shC n L) = .agg [.int .i64 r, .int .i64 a, .int .i64 i, .list 5 true ((shC n L).map insT)] := rfl
 have hsh := shift18 r a i z L (n : Int)
 rw [hu] at hf hc hsh ⊢
 rw [eq6, R6, h8, callK_some, asT_t, asB_bool, endB_nil, hf, callK_some, asT_t, asB_bool, endB_nil]
 by_cases hl : L.length ≤ 300
 ·rw [decide_eq_true hl, bNT, cf, hc, callK_some, asT_t, asI_int, endB_nil]
  cases hcb : checkB r a i L with
  | false => rfl
  | true =>
   have hok := (check_iff r a i L).1 hcb
   have hr0 := hok.r0
   have hr1 := hok.r1
   obtain ⟨ok2, fl2⟩ := sh_fine (n := n) hok hl (by omega)
   have hcb2 := (check_iff r a i (shC n L)).2 ok2
   have hlen := shC_len n L
   have hz : (!decide ((bif true then (0 : Int) else 1) = 0)) = false := rfl
   have hz0 : (!decide ((0 : Int) = 0)) = false := rfl
   rw [shiftV_ok hok n (by omega), hus] at hsh
   rw [hz, cf, en, hsh, callK_some, asTup_tup, consV_cons, asT_t, asA_agg, consT_cons, asI_int, consT_cons, asI_int, consT_cons, asI_int, consT_cons, asL_list, endT_nil, consV_cons, asT_t, asI_int, endV_nil, endB_nil, hz0, cf]
   rcases valid14 r a i z L (by omega) with ⟨g1, _⟩ | ⟨_, F, hF, v1⟩
   ·rw [hcb] at g1; cases g1
   rcases valid14 r a i true (shC n L) (by omega) with ⟨g1, _⟩ | ⟨_, H, hH, v2⟩
   ·rw [hcb2] at g1; cases g1
   have eH := sh_flow hok hl (by omega : n ≤ 100) hF hH
   subst eH
   have fl := fine_of hok (by omega : L.length ≤ 400)
   obtain ⟨c1, c2, _⟩ := FlowOf.closed fl (Nat.pos_of_ne_zero hok.len0) hF
   have hask : decide (0 < ((askL (shC n L) (shF n F) 0).length : Int)) = decide (0 < ((askL L F 0).length : Int)) := by
    refine decide_eq_decide.2 ?_
    have := sh_asks (n := n) c1
    constructor
    ·intro h1
     rcases Nat.eq_zero_or_pos (askL L F 0).length with e | e
     ·rw [List.length_eq_zero_iff, ← this] at e
      rw [e] at h1
      exact absurd h1 (by decide)
     ·omega
    ·intro h1
     rcases Nat.eq_zero_or_pos (askL (shC n L) (shF n F) 0).length with e | e
     ·rw [List.length_eq_zero_iff, this] at e
      rw [e] at h1
      exact absurd h1 (by decide)
     ·omega
   rw [hask, sh_bad, hus] at v2
   rw [hu] at v1
   rw [v2, callK_some, asT_t, asI_int, endB_nil, v1, callK_some, asT_t, asI_int, endB_nil, decide_eq_true rfl, bNT, cf]
   rcases set12 r a i z L (by omega) with ⟨g1, _⟩ | ⟨_, F2, hF2, s1⟩
   ·rw [hcb] at g1; cases g1
   rcases set12 r a i true (shC n L) (by omega) with ⟨g1, _⟩ | ⟨_, H2, hH2, s2⟩
   ·rw [hcb2] at g1; cases g1
   have e1 := FlowOf.one hF hF2
   have e2 := FlowOf.one hH hH2
   rw [e1, hu] at s1
   rw [e2, hus] at s2
   rw [s1, callK_some, asTup_tup, consV_cons, asT_t, asL_list, consV_cons, asT_t, asI_int, endV_nil, endB_nil, s2, callK_some, asTup_tup, consV_cons, asT_t, asL_list, consV_cons, asT_t, asI_int, endV_nil, endB_nil]
   rcases loops10 r a i z L (by omega) with ⟨g1, _⟩ | ⟨_, F3, hF3, l1⟩
   ·rw [hcb] at g1; cases g1
   rcases loops10 r a i true (shC n L) (by omega) with ⟨g1, _⟩ | ⟨_, H3, hH3, l2⟩
   ·rw [hcb2] at g1; cases g1
   have e3 := FlowOf.one hF hF3
   have e4 := FlowOf.one hH hH3
   rw [e3, hu] at l1
   rw [e4, hus, sh_places hok (by omega) (by omega)] at l2
   unfold numsV at l1 l2
   rw [l1, callK_some, asTup_tup, consV_cons, asT_t, asL_list, consV_cons, asT_t, asI_int, endV_nil, endB_nil, l2, callK_some, asTup_tup, consV_cons, asT_t, asL_list, consV_cons, asT_t, asI_int, endV_nil, endB_nil, hz0, cf, cf, cf, cf]
   have hsl : (setsF r.toNat F).length = F.length := by unfold setsF; rw [List.length_map]
   have hsl2 : (setsF r.toNat (shF n F)).length = n + F.length := by unfold setsF; rw [List.length_map, List.length_append, List.length_replicate]
   have hw : IntKind.i64.wrap (((setsF r.toNat F).length : Int) + (n : Int)) = ((setsF r.toNat F).length : Int) + (n : Int) := wrap64 (by omega) (by omega)
   have d1 : decide (((setsF r.toNat (shF n F)).length : Int) = ((setsF r.toNat F).length : Int) + (n : Int)) = true := decide_eq_true (by omega)
   have d2 : decide (((ints (placeL backsB L F 0)).length : Int) = ((ints ((placeL backsB L F 0).map (· + (n : Int)))).length : Int)) = true := decide_eq_true (by rw [ints_len, ints_len, List.length_map])
   have hcut : ∀ (K : List T → Option Res), cutL (setsF r.toNat (shF n F)) (some (n : Int)) none K = K (setsF r.toNat F) := by
    intro K
    unfold cutL
    rw [needC_true (by
     show (decide (0 ≤ (n : Int)) && decide ((n : Int) ≤ ((setsF r.toNat (shF n F)).length : Int)) && decide (((setsF r.toNat (shF n F)).length : Int) ≤ ((setsF r.toNat (shF n F)).length : Int))) = true
     rw [decide_eq_true (by omega), decide_eq_true (by omega), decide_eq_true (by omega)]; rfl)]
    show K (((setsF r.toNat (shF n F)).take (((setsF r.toNat (shF n F)).length : Int)).toNat).drop ((n : Int)).toNat) = _
    rw [Int.toNat_natCast, Int.toNat_natCast, List.take_length]
    congr 1
    unfold setsF
    rw [List.map_append, List.map_replicate, List.drop_append, List.length_replicate, Nat.sub_self, List.drop_zero, List.drop_of_length_le (by rw [List.length_replicate]; exact Nat.le_refl _), List.nil_append]
   have h22 := lists22 (setsF r.toNat F) true true (sets_at r.toNat (by omega) F) (by omega)
   have hpl := place_len backsB L F 0
   have h15 := L6_15_spec n (by omega) (!(placeL backsB L F 0).isEmpty) (!((placeL backsB L F 0).map (· + (n : Int))).isEmpty) (placeL backsB L F 0) (by omega) (fun k hk => by have := place_lt hk; omega) (placeL backsB L F 0).length 0 (by omega)
   rw [hw, d1, bNT, cf, d2, bNT, cf, hcut, h22, callK_some, asT_t, asB_bool, endB_nil, bNT, cf, ints_len]
   exact h15
 ·rw [decide_eq_false hl, bNF, ct]
end Go.Proofs.Ytgkdkjjohknfpaa.VM
end
