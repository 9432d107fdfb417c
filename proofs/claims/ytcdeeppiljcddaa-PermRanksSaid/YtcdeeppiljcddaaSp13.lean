/- The law PermCycles, walked. Conditions: none. -/
import Derived.Test.YtcdeeppiljcddaaSp11
import Derived.Test.YtcdeeppiljcddaaMa1
namespace Go.Proofs.Ytcdeeppiljcddaa.AM
open Go
section
variable {h h0 : Hp}
/-- A map's entries: these numbers, each true. -/
def ents (vs : List Int) : List (Value × Value) := vs.map fun x => (.int .i64 x, .bool true)
theorem look_none {x : Int} : ∀ {vs : List Int}, x ∉ vs → keyLook (ents vs) (.int .i64 x) = some none
  | [], _ => rfl
  | v :: vs, hx => by
    rw [List.mem_cons, not_or] at hx
    have hb : keyB (.int .i64 x) (.int .i64 v) = some false := by simp [keyB, hx.1]
    show keyLook ((.int .i64 v, .bool true) :: ents vs) _ = _
    unfold keyLook
    rw [hb]
    exact look_none hx.2
theorem put_end {x : Int} : ∀ {vs : List Int}, x ∉ vs → keyPut (ents vs) (.int .i64 x) (.bool true) = ents (vs ++ [x])
  | [], _ => rfl
  | v :: vs, hx => by
    rw [List.mem_cons, not_or] at hx
    have hb : keyB (.int .i64 x) (.int .i64 v) = some false := by simp [keyB, hx.1]
    show keyPut ((.int .i64 v, .bool true) :: ents vs) _ _ = _
    unfold keyPut
    rw [hb]
    simp only
    rw [put_end hx.2]
    rfl
theorem keeps_putMap (hk : Keeps h0 h) {r : Nat} {es es0 : List (Value × Value)} (hr : h0.next ≤ r) (he : h.maps r = some es0) : Keeps h0 (h.putMap r es) :=
  ⟨hk.base, hk.old, hk.next, hk.new, fun q hq => by
    unfold Hp.putMap
    have : (q == r) = false := by simp; omega
    simp only [this, cond_false]
    exact hk.maps q hq, by have := hk.low; show min h0.low h0.next ≤ min h.low r; omega,
   ⟨hk.ok.new, fun q es2 hq => by
    unfold Hp.putMap at hq ⊢
    simp only at hq ⊢
    by_cases hqr : q = r
    · subst hqr; exact hk.ok.maps q es0 he
    · have : (q == r) = false := by simpa using hqr
      rw [this, cond_false] at hq
      exact hk.ok.maps q es2 hq, hk.ok.old, hk.ok.next⟩⟩
theorem keeps_allocMap (hk : Keeps h0 h) : Keeps h0 h.allocMap :=
  hk.trans ⟨rfl, rfl, Nat.le_succ _, fun _ _ => rfl, fun q hq => by
    unfold Hp.allocMap
    have : (q == h.next) = false := by simp; omega
    simp only [this, cond_false], Nat.min_le_left _ _, ⟨fun r b hb => by have := hk.ok.new r b hb; exact ⟨this.1, by show r < h.next + 1; omega⟩, fun q es hq => by
      unfold Hp.allocMap at hq ⊢
      simp only at hq ⊢
      by_cases hqr : q = h.next
      · subst hqr; have := hk.ok.next; exact ⟨this, by omega⟩
      · have : (q == h.next) = false := by simpa using hqr
        rw [this, cond_false] at hq
        have := hk.ok.maps q es hq
        exact ⟨this.1, by omega⟩, hk.ok.old, by have := hk.ok.next; show h.base ≤ h.next + 1; omega⟩⟩

theorem cyc_inner {p c vs : List Int} {pa ca la : Option Addr} {pn pc cn cc ln lc : Nat} {up odd : Bool} {even last t44 t45 : Int} {rm : Nat} (hok : HpOk h0) (hrm : h0.next ≤ rm) (hp : Ints h0 pa pn pc p) (hci : Ints h0 ca cn cc c) (hc : IsCyc p c) (hmin : ∀ x ∈ c, hd c ≤ x) (hnd : (vs ++ c).Nodup) (hn : pn ≤ 12 ∧ cn ≤ 100) :
    ∀ (j k : Nat) (h : Hp), j + k = cn → Keeps h0 h → h.maps rm = some (ents (vs ++ c.take k)) →
      ∃ h', L3_20 pa pn pc up odd (some rm) even last ca cn cc la ln lc t44 t45 ca cn cc (cn : Int) (k : Int) h = L3_12 pa pn pc up odd (some rm) even last la ln lc t44 (IntKind.i64.wrap (t45 + 1)) h' ∧ Keeps h0 h' ∧ h'.maps rm = some (ents (vs ++ c)) := by
  obtain ⟨hn, hcn⟩ := hn
  have hpl := hp.len
  have hcl := hci.len
  intro j
  induction j with
  | zero =>
    intro k h hk hkp hm
    rw [List.take_of_length_le (by omega)] at hm
    exact ⟨h, by rw [L3_20_eq, decide_eq_false (by omega), cond_false], hkp, hm⟩
  | succ j ih =>
    intro k h hk hkp hm
    have hkc : k < c.length := by omega
    have hin := hc.in_ _ (List.getElem_mem hkc)
    have e4 : c.take (k + 1) = c.take k ++ [c[k]] := by rw [List.take_succ_eq_append_getElem hkc]
    have hnew : c[k] ∉ vs ++ c.take k := by
      have h1 : (vs ++ c.take (k + 1) ++ c.drop (k + 1)).Nodup := by
        rw [List.append_assoc, List.take_append_drop]; exact hnd
      rw [e4, ← List.append_assoc] at h1
      have h2 := (List.nodup_append.1 h1).1
      have h3 := List.nodup_append.1 h2
      exact fun hx => h3.2.2 _ hx _ (List.mem_singleton.2 rfl) rfl
    obtain ⟨m, hxm⟩ : ∃ m : Nat, c[k] = m := ⟨c[k].toNat, by omega⟩
    have hmp : m < p.length := by omega
    have hc0 : c[0]'(by omega) = hd c := by
      rw [hd_head hc.ne, List.head_eq_getElem]
    have hci' := hci.keeps hok hkp
    have hnx := hc.next k hkc
    have hat : atL p c[k] = p[m] := by rw [hxm]; exact atL_eq hmp
    have hmod : Int.tmod (IntKind.i64.wrap ((k : Int) + 1)) (cn : Int) = (((k + 1) % c.length : Nat) : Int) := by
      rw [wrap_nat (by omega), hcl]; rfl
    have hget0 : ∀ (K : Int → Option (Value × Hp)), (atC ca cn 1 0 fun d => ldI h .i64 d K) = K (hd c) := fun K => by
      have := hci'.get (i := 0) (by omega) K
      rw [hc0] at this
      exact this
    have hmin' := hmin _ (List.getElem_mem hkc)
    rw [L3_20_eq, decide_eq_true (by omega), cond_true, hci'.get hkc]
    simp only [mapAtC, asMapC, hm, lkC, look_none hnew, Option.getD_none, asBool_mk, cond_false]
    rw [hget0, decide_eq_false (by omega), cond_false, decide_eq_false (by omega), cond_false, decide_eq_false (by omega), cond_false]
    have hgp : ∀ (K : Int → Option (Value × Hp)), (atC pa pn 1 c[k] fun d => ldI h .i64 d K) = K (atL p c[k]) := fun K => by
      rw [hat, hxm]; exact (hp.keeps hok hkp).get hmp K
    rw [hgp, needC, decide_eq_false (by omega), Bool.not_false, cond_true, hmod, hci'.get (Nat.mod_lt _ (by omega)), hnx]
    simp only [decide_true, Bool.not_true, cond_false]
    simp only [mapSetC, hm, look_none hnew]
    rw [wrap_nat (by omega), put_end hnew]
    refine ih (k + 1) _ (by omega) (keeps_putMap hkp hrm hm) ?_
    rw [e4, ← List.append_assoc]
    unfold Hp.putMap
    simp
def evens (l : List (List Int)) : Nat := l.countP fun c => decide (c.length % 2 = 0)
theorem odd_fold : ∀ (l : List (List Int)) (o : Bool), l.foldl oddStep o = (o != decide (evens l % 2 = 1))
  | [], o => by cases o <;> rfl
  | c :: l, o => by
    rw [List.foldl_cons, odd_fold l]
    unfold oddStep evens
    rw [List.countP_cons]
    by_cases h1 : c.length % 2 = 0
    · rw [decide_eq_true h1]
      simp only [if_true]
      generalize l.countP (fun c => decide (c.length % 2 = 0)) = m
      rcases Nat.mod_two_eq_zero_or_one m with hm | hm
      · have h2 : (m + 1) % 2 = 1 := by omega
        rw [hm, h2]; cases o <;> rfl
      · have h2 : (m + 1) % 2 = 0 := by omega
        rw [hm, h2]; cases o <;> rfl
    · rw [decide_eq_false h1]
      simp only [Bool.false_eq_true, if_false, Nat.add_zero]
      cases o <;> rfl
theorem cyc_outer {p : List Int} {l : List (List Int)} {pa la : Option Addr} {pn pc ln lc : Nat} {rm : Nat} (hok : HpOk h0) (hrm : h0.next ≤ rm) (hp : Ints h0 pa pn pc p) (hl : Lists h0 la ln lc l) (hc : CycOk p l) (hn : pn ≤ 12) (hln : ln ≤ 100) (hlen : ∀ c ∈ l, c.length ≤ 100) :
    ∀ (j k : Nat) (h : Hp) (last : Int), j + k = ln → Keeps h0 h → h.maps rm = some (ents (l.take k).flatten) → (∀ c ∈ l.drop k, last < hd c) →
      ∃ h', L3_12 pa pn pc true (oddC l) (some rm) (evens (l.take k) : Nat) last la ln lc (ln : Int) (k : Int) h = some (.bool true, h') := by
  have hpl := hp.len
  have hll := hl.len
  intro j
  induction j with
  | zero =>
    intro k h last hk hkp hm _
    rw [List.take_of_length_le (by omega)] at hm ⊢
    have hfl : l.flatten.length = p.length := by rw [← hc.perm.length_eq, upto_length]
    have hel : (ents l.flatten).length = p.length := by rw [ents, List.length_map, hfl]
    have hcnt : evens l ≤ l.length := List.countP_le_length
    have hodd : oddC l = decide (Int.tmod (evens l : Nat) 2 = 1) := by
      unfold oddC
      rw [odd_fold]
      have : Int.tmod (evens l : Nat) 2 = ((evens l % 2 : Nat) : Int) := rfl
      rw [this]
      have h2 : decide (((evens l % 2 : Nat) : Int) = 1) = decide (evens l % 2 = 1) := decide_eq_decide.2 (by omega)
      rw [h2]
      simp
    refine ⟨h, ?_⟩
    rw [L3_12_eq, decide_eq_false (by omega), cond_false, cond_true]
    simp only [mapLenC, hm]
    rw [hel, decide_eq_true (by omega), cond_true, hodd]
    simp
  | succ j ih =>
    intro k h last hk hkp hm hlast
    have hkl : k < l.length := by omega
    have hcm := List.getElem_mem hkl
    have hcy := hc.cyc _ hcm
    obtain ⟨b, m, d, h1, h2⟩ := (Lists.keeps hok hkp hl).get hkl
    obtain ⟨b2, m2, d2, h12, h22⟩ := hl.get hkl
    have hsame := hkp.cell hok h12
    have hml := h22.len
    have hpos : 0 < l[k].length := List.length_pos_iff.2 hcy.ne
    have hsplit : l = l.take k ++ l[k] :: l.drop (k + 1) := by
      rw [← List.drop_eq_getElem_cons hkl, List.take_append_drop]
    have hfnd : l.flatten.Nodup := hc.perm.nodup (upto_nodup _)
    have hnd : ((l.take k).flatten ++ l[k]).Nodup := by
      rw [hsplit, List.flatten_append, List.flatten_cons, ← List.append_assoc] at hfnd
      exact (List.nodup_append.1 hfnd).1
    have hc0 : l[k][0]'hpos = hd l[k] := by
      rw [hd_head hcy.ne, List.head_eq_getElem]
    have hci' := h22.keeps hok hkp
    have hget0 : ∀ (K : Int → Option (Value × Hp)), (atC b2 m2 1 0 fun d => ldI h .i64 d K) = K (hd l[k]) := fun K => by
      have := hci'.get (i := 0) hpos K
      rw [hc0] at this
      exact this
    have hdk : l.drop k = l[k] :: l.drop (k + 1) := List.drop_eq_getElem_cons hkl
    have hlt := hlast l[k] (by rw [hdk]; exact List.mem_cons_self ..)
    have hm100 := hlen _ hcm
    have e4 : l.take (k + 1) = l.take k ++ [l[k]] := by rw [List.take_succ_eq_append_getElem hkl]
    have hcnt : evens (l.take k) ≤ (l.take k).length := List.countP_le_length
    rw [List.length_take] at hcnt
    have hnext : ∀ c ∈ l.drop (k + 1), hd l[k] < hd c := by
      have hpw := hc.heads
      rw [hsplit, List.pairwise_append] at hpw
      exact (List.pairwise_cons.1 hpw.2.1).1
    have goal : ∀ even : Int, even = (evens (l.take (k + 1)) : Nat) → ∃ h', J3_19 pa pn pc true (oddC l) (some rm) even (hd l[k]) b2 m2 d2 la ln lc (ln : Int) (k : Int) h = some (.bool true, h') := by
      intro even he
      obtain ⟨h3, g1, g2, g3⟩ := cyc_inner (la := la) (ln := ln) (lc := lc) (up := true) (odd := oddC l) (even := even) (last := hd l[k]) (t44 := (ln : Int)) (t45 := (k : Int)) hok hrm hp h22 hcy (hc.least _ hcm) hnd ⟨hn, by omega⟩ m2 0 h (by omega) hkp (by simpa using hm)
      have g1' : L3_20 pa pn pc true (oddC l) (some rm) even (hd l[k]) b2 m2 d2 la ln lc (ln : Int) (k : Int) b2 m2 d2 (m2 : Int) 0 h = _ := g1
      rw [J3_19_eq, g1', wrap_nat (by omega), he]
      exact ih (k + 1) h3 _ (by omega) g2 (by rw [g3, e4, List.flatten_append]; simp) hnext
    rw [L3_12_eq, decide_eq_true (by omega), cond_true, (Lists.keeps hok hkp hl).at hkl, ldSl_of hsame, decide_eq_false (by omega), cond_false, hget0, decide_eq_false (by omega), cond_false, hget0]
    have hev : evens (l.take (k + 1)) = evens (l.take k) + if l[k].length % 2 = 0 then 1 else 0 := by
      rw [e4]
      unfold evens
      rw [List.countP_append]
      simp [List.countP_cons]
    have htm : Int.tmod (m2 : Int) 2 = ((l[k].length % 2 : Nat) : Int) := by rw [hml]; rfl
    rw [htm]
    by_cases h3 : l[k].length % 2 = 0
    · rw [decide_eq_true (by omega), cond_true]
      rw [if_pos h3] at hev
      exact goal _ (by rw [hev, wrap_nat (by omega)])
    · rw [decide_eq_false (by omega), cond_false]
      rw [if_neg h3] at hev
      exact goal _ (by rw [hev]; rfl)
theorem cycles_law (hok : HpOk h) {pa : Option Addr} {pn pc : Nat} {p : List Int} (hp : Ints h pa pn pc p) :
    ∃ h', run 3 [.slice pa pn pc] h = some (.bool true, h') := by
  rw [eq3]
  have hpn := hp.len
  obtain ⟨h1, e1, k1⟩ := live_spec hok
  rw [e1, runC_some, asBool_mk]
  simp only [lt]
  have e2 : run 12 [.slice (some ⟨h1.next, 0, none⟩) 1 0] (h1.alloc [.slice pa pn pc] 1 []) = _ := few_lit k1.ok (cs := [.slice pa pn pc]) (ms := [pn]) rfl rfl (fun i hi => by
    match i, hi with
    | 0, _ => exact ⟨_, _, rfl⟩) (by simp)
  rw [e2, runC_some, asBool_mk]
  have k2 : Keeps h (h1.alloc [.slice pa pn pc] 1 []) := keeps_alloc k1 _ _ _
  generalize h1.alloc [.slice pa pn pc] 1 [] = h2 at *
  have ip := hp.keeps hok k2
  cases hf : [pn].all fun m => decide (m ≤ 100) with
  | false => exact ⟨h2, rfl⟩
  | true =>
    rw [Bool.not_true, cond_false, check_spec ip, runC_some, asInt_mk]
    cases ho : isOrd p with
    | false => exact ⟨h2, rfl⟩
    | true =>
      have hle := ord_le ho
      simp only [if_true, decide_true, Bool.not_true, cond_false]
      obtain ⟨h3, a3, n3, c3, k3, m3, e3⟩ := runC_givesL (R := Value × Hp) (cycles_spec k2.ok ip)
      have hcl : cyclesL p = cycL p := if_pos ho
      rw [ordE_ok ho] at e3
      rw [hcl] at m3
      rw [e3 (fun a n c x h => _)]
      have ip3 := ip.keeps k2.ok k3
      obtain ⟨h4, e4, k4⟩ := odd_spec k3.ok ip3
      have hol : oddL p = oddC (cycL p) := by unfold oddL; rw [hcl]
      rw [e4, ordE_ok ho, hol, runC_b _ _ _ (fun y x h => _)]
      simp only [decide_true, Bool.not_true, cond_false]
      have k5 : Keeps h4 h4.allocMap := keeps_allocMap (Keeps.refl k4.ok)
      have hcok := cycL_ok ho
      have n3l := m3.len
      have hlen12 : (cycL p).length ≤ 12 := by rw [← hcl]; exact cyclesL_length p
      have hm0 : h4.allocMap.maps h4.next = some (ents ((cycL p).take 0).flatten) := by
        unfold Hp.allocMap
        simp [ents]
      obtain ⟨h', g⟩ := cyc_outer (h0 := h4) (rm := h4.next) k4.ok (Nat.le_refl _) (ip3.keeps k3.ok k4) (Lists.keeps k3.ok k4 m3) hcok (by omega) (by omega) (fun c hc => by
        have h1 : c.length ≤ (cycL p).flatten.length := (List.sublist_flatten_of_mem hc).length_le
        rw [← hcok.perm.length_eq, upto_length] at h1
        omega) n3 0 h4.allocMap (-1) (by omega) k5 hm0 (fun c hc => by
        rw [List.drop_zero] at hc
        have hcy := hcok.cyc c hc
        have := hcy.in_ _ (List.head_mem hcy.ne)
        rw [hd_head hcy.ne]
        omega)
      exact ⟨h', g⟩
end
end Go.Proofs.Ytcdeeppiljcddaa.AM
