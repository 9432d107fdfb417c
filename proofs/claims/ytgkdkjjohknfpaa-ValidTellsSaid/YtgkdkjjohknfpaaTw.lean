/- Merged: Tu5 Tu4 Tu6. Conditions: none. -/
import Derived.Test.YtgkdkjjohknfpaaTv
set_option linter.all false
section
namespace Go.Proofs.Ytgkdkjjohknfpaa.VM
set_option linter.unusedSectionVars false
set_option linter.unusedVariables false
open Go AM
theorem in50(z:Bool)(l:List Int)(n:Int)(hb:l.length≤1000) :vr 50 0 [.t (.list 1 z (ints l)), .t (.int .i64 n)] e0=some (.t (.bool (l.any fun k=>decide (k=n))),e0):=by
 have h2:∀(m j:Nat),m+j=l.length→L50_2 n z (ints l) (l.length:Int) (j:Int)=some (.t (.bool ((l.drop j).any fun k=>decide (k=n))),e0):=by
  intro m
  induction m with
  | zero=>
   intro j h
   have d:decide ((j:Int)<(l.length:Int))=false:=decide_eq_false (by omega)
   rw [L50_2_eq,RL50_2,d,cf,List.drop_of_length_le (by omega)]
   rfl
  | succ m ih=>
   intro j h
   have d:decide ((j:Int)<(l.length:Int))=true:=decide_eq_true (by omega)
   have n0:decide ((0:Int)≤(j:Int))=true:=decide_eq_true (by omega)
   have hlt:j<l.length:=by omega
   rw [L50_2_eq,RL50_2,d,ct,needC_true n0,Int.toNat_natCast,getT_at (ints_at hlt),asI_int,nat64 (by omega),ih (j+1) (by omega),List.drop_eq_getElem_cons hlt,List.any_cons]
   cases decide (l[j]=n) <;>rfl
 have:=h2 l.length 0 (Nat.add_zero _)
 rw [List.drop_zero] at this
 rw [eq50,R50,ints_len]
 exact this
theorem in_setR(b:Bt)(v:Int) :∀(m n:Nat),(setR b n m).any (fun k=>decide (k=v))=(decide ((n:Int)≤v) &&decide (v<((n+m:Nat):Int)) &&hasB b v.toNat)
 | 0,n=>by
  show false=_
  by_cases h:(n:Int)≤v
  ·rw [decide_eq_false (by omega:¬v<((n+0:Nat):Int)),bAF,bFA]
  ·rw [decide_eq_false h,bFA,bFA]
 | m+1,n=>by
  show ((bif hasB b n then [(n:Int)] else [])++setR b (n+1) m).any _=_
  rw [List.any_append,in_setR b v m (n+1)]
  by_cases e:v=(n:Int)
  ·subst e
   rw [decide_eq_false (by omega:¬((n+1:Nat):Int)≤(n:Int)),bFA,bFA,bOF,decide_eq_true (Int.le_refl _),decide_eq_true (by omega:(n:Int)<((n+(m+1):Nat):Int)),bTA,bTA,Int.toNat_natCast]
   cases hasB b n with
   | false=>rfl
   | true=>show (decide ((n:Int)=(n:Int)) || false)=true; rw [decide_eq_true rfl]; rfl
  ·have e1:((bif hasB b n then [(n:Int)] else []).any fun k=>decide (k=v))=false:=by
    cases hasB b n with
    | false=>rfl
    | true=>show (decide ((n:Int)=v) || false)=false; rw [decide_eq_false (fun x=>e x.symm)]; rfl
   have e2:decide (((n+1:Nat):Int)≤v)=decide ((n:Int)≤v):=decide_eq_decide.2 (by omega)
   have e3:decide (v<((n+1+m:Nat):Int))=decide (v<((n+(m+1):Nat):Int)):=decide_eq_decide.2 (by omega)
   rw [e1,bFO,e2,e3]
theorem r26_11(F:Fl)(S:List T)(R:Nat)(hS:S=setsF R F)(az sz:Bool)(i:Nat)(o:Option Bt)(ho:F[i]? =some o)(A:Bool)(B:List T)(C:Int)(kz:Bool)(ks:List Int)(hks:ks.length≤10)(hr:∀k∈ks,0≤k∧k<(R:Int))(hR:R≤128)(hi:i≤400)(E:Bool)(out:List T)(hout:out.length≤400) :∀(m j:Nat) (bad:Bool),m+j=ks.length→
  L26_11 az (rchL F) sz S (i:Int) bad A B C (i:Int) kz (ints ks) (ks.length:Int) (j:Int) E out=
   (bif bad || (o.isSome &&(ks.drop j).any fun k=> !hasB (o.getD (0,0)) k.toNat) then L26_7 az (rchL F) sz S A B C ((i+1:Nat):Int) true (out++[.int .i64 (i:Int)]) else L26_7 az (rchL F) sz S A B C ((i+1:Nat):Int) E out)
 | 0,j,bad,h=>by
  have d:decide ((j:Int)<(ks.length:Int))=false:=decide_eq_false (by omega)
  rw [L26_11_eq,RL26_11,d,cf,List.drop_of_length_le (by omega),List.any_nil,bAF,bOF,nat64 (by omega),needC_true (app_ok (by omega)),bOT]
 | m+1,j,bad,h=>by
  have d:decide ((j:Int)<(ks.length:Int))=true:=decide_eq_true (by omega)
  have n0:decide ((0:Int)≤(j:Int))=true:=decide_eq_true (by omega)
  have n1:decide ((0:Int)≤(i:Int))=true:=decide_eq_true (by omega)
  have hlt:j<ks.length:=by omega
  have ih:=fun bad'=>r26_11 F S R hS az sz i o ho A B C kz ks hks hr hR hi E out hout m (j+1) bad' (by omega)
  have hSi:S[i]? =some (.list 1 (!(setO R o).isEmpty) (ints (setO R o))):=by
   rw [hS]
   unfold setsF
   rw [List.getElem?_map,ho]
   rfl
  rw [L26_11_eq,RL26_11,d,ct,needC_true n0,Int.toNat_natCast,getT_at (ints_at hlt),asI_int,nat64 (by omega),List.drop_eq_getElem_cons hlt,List.any_cons]
  cases bad with
  | true=>rw [ct,ih true,bTO,bTO]
  | false=>
   rw [cf,needC_true n1,Int.toNat_natCast,getT_at (rch_at ho),asB_bool,bFO]
   cases o with
   | none=>rw [Option.isSome_none,cf,ih false,Option.isSome_none,bFO,bFA,bFA]
   | some b=>
    have hin:=in50 (!(setO R (some b)).isEmpty) (setO R (some b)) ks[j] (by have:=setR_len b R 0; show (setR b 0 R).length≤1000; omega)
    have hs:(setO R (some b)).any (fun k=>decide (k=ks[j]))=hasB b ks[j].toNat:=by
     have hrk:=hr ks[j] (List.getElem_mem hlt)
     show (setR b 0 R).any _=_
     rw [in_setR,decide_eq_true (by omega:((0:Nat):Int)≤ks[j]),decide_eq_true (by omega:ks[j]<((0+R:Nat):Int)),bTA,bTA]
    rw [Option.isSome_some,ct,needC_true n1,getT_at hSi,asL_list,hin,callK_some,asT_t,asB_bool,endB_nil,hs,ih,Option.isSome_some,bTA,bTA,Option.getD_some]
theorem r26_7{r a i:Int}{L:List Ins}(hok:Okc r a i L)(hl:L.length≤400)(F:Fl)(hF:F.length=L.length)(az sz A:Bool) :∀(m j:Nat) (out:List Int),m+j=L.length→out.length≤j→
  L26_7 az (rchL F) sz (setsF r.toNat F) A (L.map insT) (L.length:Int) (j:Int) (!out.isEmpty) (ints out)=
   some (.tup [numsV (out++askL (L.drop j) (F.drop j) j), .t (.int .i64 0)],e0)
 | 0,j,out,h,ho=>by
  have d:decide ((j:Int)<(L.length:Int))=false:=decide_eq_false (by omega)
  have e:askL [] (F.drop j) j=[]:=by unfold askL; rfl
  rw [L26_7_eq,RL26_7,d,cf,List.drop_of_length_le (by omega),e,List.append_nil]
 | m+1,j,out,h,ho=>by
  have d:decide ((j:Int)<(L.length:Int))=true:=decide_eq_true (by omega)
  have n0:decide ((0:Int)≤(j:Int))=true:=decide_eq_true (by omega)
  have hlt:j<L.length:=by omega
  have hltF:j<F.length:=by omega
  have h49:=reads49 L[j]
  have hr0:=hok.r0
  have hr1:=hok.r1
  have hrl:(readsL L[j]).length≤10:=Nat.le_trans (reads_len L[j]) (by decide)
  have hin:∀k∈readsL L[j],0≤k∧k<((r.toNat:Nat):Int):=by
   intro k hk
   have:=regs_in (hok.may L[j] (List.getElem_mem hlt)) k (List.mem_append_left _ hk)
   omega
  have h11:=r26_11 F _ r.toNat rfl az sz j F[j] (List.getElem?_eq_getElem hltF) A (L.map insT) (L.length:Int) (!(readsL L[j]).isEmpty) (readsL L[j]) hrl hin (by omega) (by omega) (!out.isEmpty) (ints out) (by rw [ints_len]; omega) (readsL L[j]).length 0 false (Nat.add_zero _)
  rw [List.drop_zero,bFO] at h11
  have ih:=fun out' h'=>r26_7 hok hl F hF az sz A m (j+1) out' (by omega) h'
  rw [insU] at h49
  rw [L26_7_eq,RL26_7,d,ct,needC_true n0,Int.toNat_natCast,getT_at (insM_at hlt),insU,asA_agg,consT_cons,asI_int,consT_cons,asI_int,consT_cons,asI_int,consT_cons,asI_int,consT_cons,asI_int,endT_nil,h49,callK_some]
  unfold numsV
  rw [asT_t,asL_list,endB_nil,ints_len]
  refine h11.trans ?_
  rw [List.drop_eq_getElem_cons hlt,List.drop_eq_getElem_cons hltF,askL_cons]
  show (bif (F[j]).isSome &&asksB L[j] ((F[j]).getD (0,0)) then _ else _)=_
  cases (F[j]).isSome &&asksB L[j] ((F[j]).getD (0,0)) with
  | false=>
   rw [cf,cf,List.nil_append]
   exact ih out (by omega)
  | true=>
   have hs:=ih (out++[(j:Int)]) (by rw [List.length_append]; show _+1≤_; omega)
   have hne:(!(out++[(j:Int)]).isEmpty)=true:=by cases out <;>rfl
   rw [←ints_snoc,hne,List.append_assoc] at hs
   rw [ct,ct]
   exact hs
theorem unset26(r a i:Int)(z:Bool)(L:List Ins)(hl:L.length≤400)(hc:checkB r a i L=true){F:Fl}(hF:FlowOf L F) :vr 26 0 [.t (cdT r a i z L)] e0=some (.tup [numsV (askL L F 0), .t (.int .i64 0)],e0):=by
 have h1:=reach23 r a i z L hl
 have h2:=set24 r a i z L hl hc hF
 have hok:=(check_iff r a i L).1 hc
 have c1:=(FlowOf.closed (fine_of hok hl) (Nat.pos_of_ne_zero hok.len0) hF).1
 have h7:=r26_7 hok hl F c1 true true z L.length 0 [] (Nat.add_zero _) (Nat.le_refl _)
 rw [List.drop_zero,List.drop_zero,List.nil_append] at h7
 have hz:(!decide ((0:Int)=0))=false:=rfl
 rw [hc,bls_reach hok hl hF] at h1
 unfold cdT at h1 h2 ⊢
 rw [eq26,R26,h1,callK_some,ct,asTup_tup,consV_cons,asT_t,asL_list,consV_cons,asT_t,asI_int,endV_nil,endB_nil,hz,cf,h2,callK_some,asTup_tup,consV_cons,asT_t,asL_list,consV_cons,asT_t,asI_int,endV_nil,endB_nil,List.length_map]
 exact h7
/-! ### Loops -/
theorem r28_10(F:Fl)(az:Bool)(i:Nat)(o:Option Bt)(ho:F[i]? =some o)(A:Bool)(B:List T)(C:Int)(kz:Bool)(ks:List Int)(hks:ks.length≤10)(hi:i≤400)(E:Bool)(out:List T)(hout:out.length≤400) :∀(m j:Nat) (back:Bool),m+j=ks.length→
  L28_10 az (rchL F) (i:Int) back A B C (i:Int) kz (ints ks) (ks.length:Int) (j:Int) E out=
   (bif back || (o.isSome &&(ks.drop j).any fun k=>decide (k≤(i:Int))) then L28_6 az (rchL F) A B C ((i+1:Nat):Int) true (out++[.int .i64 (i:Int)]) else L28_6 az (rchL F) A B C ((i+1:Nat):Int) E out)
 | 0,j,back,h=>by
  have d:decide ((j:Int)<(ks.length:Int))=false:=decide_eq_false (by omega)
  rw [L28_10_eq,RL28_10,d,cf,List.drop_of_length_le (by omega),List.any_nil,bAF,bOF,nat64 (by omega),needC_true (app_ok (by omega)),bOT]
 | m+1,j,back,h=>by
  have d:decide ((j:Int)<(ks.length:Int))=true:=decide_eq_true (by omega)
  have n0:decide ((0:Int)≤(j:Int))=true:=decide_eq_true (by omega)
  have n1:decide ((0:Int)≤(i:Int))=true:=decide_eq_true (by omega)
  have hlt:j<ks.length:=by omega
  have ih:=fun back'=>r28_10 F az i o ho A B C kz ks hks hi E out hout m (j+1) back' (by omega)
  rw [L28_10_eq,RL28_10,d,ct,needC_true n0,Int.toNat_natCast,getT_at (ints_at hlt),asI_int,nat64 (by omega),List.drop_eq_getElem_cons hlt,List.any_cons]
  cases back with
  | true=>rw [ct,ih true,bTO,bTO]
  | false=>
   rw [cf,needC_true n1,Int.toNat_natCast,getT_at (rch_at ho),asB_bool,bFO]
   cases o with
   | none=>rw [Option.isSome_none,cf,ih false,Option.isSome_none,bFO,bFA,bFA]
   | some b=>rw [Option.isSome_some,ct,ih,Option.isSome_some,bTA,bTA]
theorem r28_6(L:List Ins)(hl:L.length≤400)(F:Fl)(hF:F.length=L.length)(az A:Bool) :∀(m j:Nat) (out:List Int),m+j=L.length→out.length≤j→
  L28_6 az (rchL F) A (L.map insT) (L.length:Int) (j:Int) (!out.isEmpty) (ints out)=
   some (.tup [numsV (out++placeL backsB (L.drop j) (F.drop j) j), .t (.int .i64 0)],e0)
 | 0,j,out,h,ho=>by
  have d:decide ((j:Int)<(L.length:Int))=false:=decide_eq_false (by omega)
  have e:placeL backsB [] (F.drop j) j=[]:=by unfold placeL; rfl
  rw [L28_6_eq,RL28_6,d,cf,List.drop_of_length_le (by omega),e,List.append_nil]
 | m+1,j,out,h,ho=>by
  have d:decide ((j:Int)<(L.length:Int))=true:=decide_eq_true (by omega)
  have n0:decide ((0:Int)≤(j:Int))=true:=decide_eq_true (by omega)
  have hlt:j<L.length:=by omega
  have hltF:j<F.length:=by omega
  have h51:=next51 L[j] (j:Int)
  have h10:=r28_10 F az j F[j] (List.getElem?_eq_getElem hltF) A (L.map insT) (L.length:Int) (!(nextL L[j] (j:Int)).isEmpty) (nextL L[j] (j:Int)) (by have:=next_len L[j] (j:Int); omega) (by omega) (!out.isEmpty) (ints out) (by rw [ints_len]; omega) (nextL L[j] (j:Int)).length 0 false (Nat.add_zero _)
  rw [List.drop_zero,bFO] at h10
  have ih:=fun out' h'=>r28_6 L hl F hF az A m (j+1) out' (by omega) h'
  rw [insU] at h51
  rw [L28_6_eq,RL28_6,d,ct,needC_true n0,Int.toNat_natCast,getT_at (insM_at hlt),insU,asA_agg,consT_cons,asI_int,consT_cons,asI_int,consT_cons,asI_int,consT_cons,asI_int,consT_cons,asI_int,endT_nil,h51,callK_some]
  unfold numsV
  rw [asT_t,asL_list,endB_nil,ints_len]
  refine h10.trans ?_
  rw [List.drop_eq_getElem_cons hlt,List.drop_eq_getElem_cons hltF,places_cons]
  show (bif (F[j]).isSome &&backsB L[j] (j:Int) then _ else _)=_
  cases (F[j]).isSome &&backsB L[j] (j:Int) with
  | false=>
   rw [cf,cf,List.nil_append]
   exact ih out (by omega)
  | true=>
   have hs:=ih (out++[(j:Int)]) (by rw [List.length_append]; show _+1≤_; omega)
   have hne:(!(out++[(j:Int)]).isEmpty)=true:=by cases out <;>rfl
   rw [←ints_snoc,hne,List.append_assoc] at hs
   rw [ct,ct]
   exact hs
theorem loops28(r a i:Int)(z:Bool)(L:List Ins)(hl:L.length≤400)(hc:checkB r a i L=true){F:Fl}(hF:FlowOf L F) :vr 28 0 [.t (cdT r a i z L)] e0=some (.tup [numsV (placeL backsB L F 0), .t (.int .i64 0)],e0):=by
 have h1:=reach23 r a i z L hl
 have hok:=(check_iff r a i L).1 hc
 have c1:=(FlowOf.closed (fine_of hok hl) (Nat.pos_of_ne_zero hok.len0) hF).1
 have h6:=r28_6 L hl F c1 true z L.length 0 [] (Nat.add_zero _) (Nat.le_refl _)
 rw [List.drop_zero,List.drop_zero,List.nil_append] at h6
 have hz:(!decide ((0:Int)=0))=false:=rfl
 rw [hc,bls_reach hok hl hF] at h1
 unfold cdT at h1 ⊢
 rw [eq28,R28,h1,callK_some,ct,asTup_tup,consV_cons,asT_t,asL_list,consV_cons,asT_t,asI_int,endV_nil,endB_nil,hz,cf,List.length_map]
 exact h6
/-! ### Check -/
theorem r30_7(r a i:Int)(z A:Bool)(l:List T)(L:List Ins)(hl:L.length≤400) :∀(m j:Nat),m+j=L.length→
  L30_7 A (L.map insT) (L.length:Int) (j:Int) r a i z l=some (.t (.int .i64 (bif (L.drop j).any (badB i) then 3 else 0)),e0)
 | 0,j,h=>by
  have d:decide ((j:Int)<(L.length:Int))=false:=decide_eq_false (by omega)
  rw [L30_7_eq,RL30_7,d,cf,List.drop_of_length_le (by omega)]
  rfl
 | m+1,j,h=>by
  have d:decide ((j:Int)<(L.length:Int))=true:=decide_eq_true (by omega)
  have n0:decide ((0:Int)≤(j:Int))=true:=decide_eq_true (by omega)
  have hlt:j<L.length:=by omega
  have ih:=r30_7 r a i z A l L hl m (j+1) (by omega)
  rw [L30_7_eq,RL30_7,d,ct,needC_true n0,Int.toNat_natCast,getT_at (insM_at hlt),insU,asA_agg,consT_cons,asI_int,consT_cons,asI_int,consT_cons,asI_int,consT_cons,asI_int,consT_cons,asI_int,endT_nil,nat64 (by omega),ih,List.drop_eq_getElem_cons hlt,List.any_cons]
  unfold badB
  cases decide (L[j].op=7) with
  | true=>cases decide (L[j].a<i) <;>rfl
  | false=>
   cases decide (L[j].op=9) with
   | true=>cases decide (L[j].a<i) <;>rfl
   | false=>rfl
theorem check30(r a i:Int)(z:Bool)(L:List Ins)(hl:L.length≤400)(hc:checkB r a i L=true){F:Fl}(hF:FlowOf L F) :vr 30 0 [.t (cdT r a i z L)] e0=some (.t (.int .i64 (bif decide (0<((askL L F 0).length:Int)) then 7 else bif L.any (badB i) then 3 else 0)),e0):=by
 have h2:=unset26 r a i z L hl hc hF
 have h7:=r30_7 r a i z z (L.map insT) L hl L.length 0 (Nat.add_zero _)
 rw [List.drop_zero] at h7
 have hz:(!decide ((0:Int)=0))=false:=rfl
 unfold cdT at h2 ⊢
 rw [eq30,R30,h2,callK_some]
 unfold numsV
 rw [asTup_tup,consV_cons,asT_t,asL_list,consV_cons,asT_t,asI_int,endV_nil,endB_nil,hz,cf,ints_len,List.length_map]
 cases decide (0<((askL L F 0).length:Int)) with
 | true=>rfl
 | false=>rw [cf,cf]; exact h7
theorem none15(r a i:Int)(z:Bool)(L:List Ins)(hl:L.length≤400)(hc:checkB r a i L=false) :
  vr 24 0 [.t (cdT r a i z L)] e0=some (.tup [.t (.list 1 false []), .t (.int .i64 1)],e0)∧vr 26 0 [.t (cdT r a i z L)] e0=some (.tup [.t (.list 1 false []), .t (.int .i64 1)],e0)∧
  vr 28 0 [.t (cdT r a i z L)] e0=some (.tup [.t (.list 1 false []), .t (.int .i64 1)],e0)∧vr 30 0 [.t (cdT r a i z L)] e0=some (.t (.int .i64 1),e0)∧
  vr 27 0 [.t (cdT r a i z L)] e0=some (.tup [.t (cdT 0 0 0 false []), .t (.int .i64 1)],e0):=by
 have h1:=reach23 r a i z L hl
 rw [hc] at h1
 have h2:vr 26 0 [.t (cdT r a i z L)] e0=some (.tup [.t (.list 1 false []), .t (.int .i64 1)],e0):=by
  unfold cdT at h1 ⊢
  rw [eq26,R26,h1,callK_some]
  rfl
 refine ⟨?_,h2, ?_, ?_, ?_⟩
 ·unfold cdT at h1 ⊢
  rw [eq24,R24,h1,callK_some]
  rfl
 ·unfold cdT at h1 ⊢
  rw [eq28,R28,h1,callK_some]
  rfl
 ·unfold cdT at h2 ⊢
  rw [eq30,R30,h2,callK_some]
  rfl
 ·unfold cdT at h1 ⊢
  rw [eq27,R27,h1,callK_some]
  rfl
end Go.Proofs.Ytgkdkjjohknfpaa.VM
end
section
namespace Go.Proofs.Ytgkdkjjohknfpaa.VM
set_option linter.unusedSectionVars false
set_option linter.unusedVariables false
open Go AM
section
section
variable {α:Type}
def keepG :List α→Fl→List α
 | x::l,o::F=>bif o.isSome then x::keepG l F else keepG l F
 | _,_=>[]
def atN :Fl→Nat→Nat
 | [],_=>0
 | _::_,0=>0
 | o::F,i+1=>(bif o.isSome then 1 else 0)+atN F i
theorem keep_cons(x:α)(l:List α)(o:Option Bt)(F:Fl) :keepG (x::l) (o::F)=bif o.isSome then x::keepG l F else keepG l F:=rfl
theorem at_cons(o:Option Bt)(F:Fl)(i:Nat) :atN (o::F) (i+1)=(bif o.isSome then 1 else 0)+atN F i:=rfl
theorem at_zero(F:Fl) :atN F 0=0:=by cases F <;>rfl
theorem keep_at :∀(l:List α) (F:Fl) (i:Nat) (x:α) (b:Bt),l[i]? =some x→F[i]? =some (some b)→(keepG l F)[atN F i]? =some x
 | [],_,_,_,_,h,_=>by simp at h
 | _::_,[],_,_,_,_,h=>by simp at h
 | y::l,o::F,0,x,b,h,hb=>by
  have h1:y=x:=by simpa using h
  have h2:o=some b:=by simpa using hb
  subst h1
  subst h2
  rfl
 | y::l,o::F,i+1,x,b,h,hb=>by
  have ih:=keep_at l F i x b (by simpa using h) (by simpa using hb)
  rw [keep_cons,at_cons]
  cases o.isSome with
  | true=>rw [ct,ct,Nat.add_comm]; simpa using ih
  | false=>rw [cf,cf,Nat.zero_add]; exact ih
theorem keep_of :∀(l:List α) (F:Fl),F.length=l.length→∀p,p<(keepG l F).length→∃i b,i<l.length∧F[i]? =some (some b)∧atN F i=p
 | [],F,_,p,h=>by cases F <;>exact absurd h (Nat.not_lt_zero _)
 | _::_,[],h,_,_=>by simp at h
 | y::l,o::F,hl,p,h=>by
  have ih:=keep_of l F (by simpa using hl)
  rw [keep_cons] at h
  cases ho:o with
  | none=>
   rw [ho] at h
   obtain ⟨i,b,h1,h2,h3⟩:=ih p h
   exact ⟨i+1,b,by simpa using h1,by simpa using h2,by rw [at_cons]; show 0+atN F i=p; omega⟩
  | some c=>
   rw [ho] at h
   cases p with
   | zero=>exact ⟨0,c,by simp,rfl,rfl⟩
   | succ p=>
    obtain ⟨i,b,h1,h2,h3⟩:=ih p (by simpa using h)
    exact ⟨i+1,b,by simpa using h1,by simpa using h2,by rw [at_cons]; show 1+atN F i=p+1; omega⟩
theorem at_succ :∀(F:Fl) (i:Nat) (b:Bt),F[i]? =some (some b)→atN F (i+1)=atN F i+1
 | [],_,_,h=>by simp at h
 | o::F,0,b,h=>by
  have h2:o=some b:=by simpa using h
  subst h2
  rw [at_cons,at_zero]
  rfl
 | o::F,i+1,b,h=>by
  have:=at_succ F i b (by simpa using h)
  rw [at_cons,at_cons,this]
  omega
theorem at_skip :∀(F:Fl) (i:Nat),F[i]? =some none→atN F (i+1)=atN F i
 | [],_,h=>by simp at h
 | o::F,0,h=>by
  have h2:o=none:=by simpa using h
  subst h2
  rw [at_cons,at_zero,at_zero]
  rfl
 | o::F,i+1,h=>by
  have:=at_skip F i (by simpa using h)
  rw [at_cons,at_cons,this]
theorem at_le :∀(F:Fl) (i:Nat),atN F i≤i
 | [],_=>Nat.zero_le _
 | _::_,0=>Nat.le_refl _
 | o::F,i+1=>by
  have:=at_le F i
  rw [at_cons]
  cases o.isSome
  ·rw [cf]; omega
  ·rw [ct]; omega
theorem keep_len :∀(l:List α) (F:Fl),F.length=l.length→(keepG l F).length=atN F l.length
 | [],F,h=>by
  have:F=[]:=List.length_eq_zero_iff.1 h
  subst this
  rfl
 | y::l,[],h=>by simp at h
 | y::l,o::F,h=>by
  have:=keep_len l F (by simpa using h)
  rw [keep_cons,List.length_cons,at_cons,←this]
  cases o.isSome
  ·rw [cf,cf,Nat.zero_add]
  ·rw [ct,ct,List.length_cons,Nat.add_comm]
theorem at_lt{l:List α}{F:Fl}(hF:F.length=l.length){i:Nat}{b:Bt}(h:F[i]? =some (some b)) :atN F i<(keepG l F).length:=by
 have hi:i<l.length:=by
  rcases Nat.lt_or_ge i F.length with h1 | h1
  ·omega
  ·rw [List.getElem?_eq_none h1] at h; cases h
 have:=keep_at l F i l[i] b (List.getElem?_eq_getElem hi) h
 rcases Nat.lt_or_ge (atN F i) (keepG l F).length with h1 | h1
 ·exact h1
 ·rw [List.getElem?_eq_none h1] at this; cases this
def AllR(F:Fl) :Prop:=∀o∈F,∃b,o=some b
theorem keep_all :∀(l:List α) (F:Fl),F.length=l.length→AllR F→keepG l F=l
 | [],F,_,_=>by cases F <;>rfl
 | y::l,[],h,_=>by simp at h
 | y::l,o::F,h,ha=>by
  obtain ⟨b,rfl⟩:=ha o (by simp)
  rw [keep_cons,keep_all l F (by simpa using h) fun q hq=>ha q (List.mem_cons_of_mem _ hq)]
  rfl
theorem at_all :∀(F:Fl) (i:Nat),AllR F→i≤F.length→atN F i=i
  | [], i, _, h => by have : i = 0 := by simpa using h
                      subst this; rfl
  | _::_,0,_,_=>rfl
  | o::F,i+1,ha,h=>by
    obtain ⟨b,rfl⟩:=ha o (by simp)
    rw [at_cons,at_all F i (fun q hq=>ha q (List.mem_cons_of_mem _ hq)) (by simpa using h)]
    show 1+i=i+1
    omega
theorem keep_allR :∀(F G:Fl),G=F→AllR (keepG F G)
 | [],G,h=>by subst h; intro o ho; simp [keepG] at ho
 | o::F,G,h=>by
  subst h
  intro q hq
  rw [keep_cons] at hq
  cases ho:o with
  | none=>rw [ho] at hq; exact keep_allR F F rfl q hq
  | some b=>
   rw [ho] at hq
   rcases List.mem_cons.1 hq with rfl | hq
   ·exact ⟨b,rfl⟩
   ·exact keep_allR F F rfl q hq
end
def reT(F:Fl)(x:Ins) :Ins:=
 bif decide (x.op=10) then ⟨x.op,(atN F x.a.toNat:Int),x.b,x.c,x.n⟩ else bif decide (x.op=11) || decide (x.op=12) then ⟨x.op,x.a,x.b,(atN F x.c.toNat:Int),x.n⟩ else x
def trimL(L:List Ins)(F:Fl) :List Ins:=(keepG L F).map (reT F)
end
structure Flow (r a i:Int) (L:List Ins) (F:Fl):Prop where
 ok:Okc r a i L
 len:L.length≤300
 same:F.length=L.length
 closed:ClosedT L F []
 zero:F[0]? =some (some (0,0))
theorem Flow.of{r a i:Int}{L:List Ins}{F:Fl}(hok:Okc r a i L)(hl:L.length≤300)(h:FlowOf L F) :Flow r a i L F:=by
 have fl:=fine_of hok (Nat.le_trans hl (by decide))
 have h0:0<L.length:=Nat.pos_of_ne_zero hok.len0
 obtain ⟨c1,c2,_⟩:=FlowOf.closed fl h0 h
 exact ⟨hok,hl,c1,c2,FlowOf.zero fl h0 h⟩
theorem app5_ok{n:Nat}(h:n≤100000) :(decide ((n+1)*(40+1)≤70368744177664) &&decide (40≤1048576))=true:=by
 rw [decide_eq_true (by omega:(n+1)*(40+1)≤70368744177664)]
 rfl
theorem trim7(r a i:Int)(z:Bool)(L:List Ins)(F:Fl)(hF:F.length=L.length)(hb:L.length≤300)(x0 x1 x2:Int)(xz:Bool)(xl:List T) :∀(m j:Nat) (K:List Ins) (at_:List Int),m+j=L.length→at_.length=L.length→(∀k,k<j→at_[k]? =some (atN F k:Int))→K.length=atN F j→
  ∃at2:List Int,at2.length=L.length∧(∀k,k<L.length→at2[k]? =some (atN F k:Int))∧
  L17_7 z (L.map insT) ((L.length:Nat):Int) (j:Int) r a i (!K.isEmpty) (K.map insT) x0 x1 x2 xz xl r a i z (L.map insT) true (bitsL F) true (rchL F) true (ints at_)=
   L17_14 (((K++keepG (L.drop j) (F.drop j)).length:Nat):Int) 0 r a i (!(K++keepG (L.drop j) (F.drop j)).isEmpty) ((K++keepG (L.drop j) (F.drop j)).map insT) x0 x1 x2 xz xl true (ints at2)
 | 0,j,K,at_,h,h1,h2,h3=>by
  have d:decide ((j:Int)<((L.length:Nat):Int))=false:=decide_eq_false (by omega)
  refine ⟨at_,h1,fun k hk=>h2 k (by omega), ?_⟩
  have e:keepG (L.drop j) (F.drop j)=[]:=by rw [List.drop_of_length_le (by omega)]; rfl
  rw [L17_7_eq,RL17_7,d,cf,e,List.append_nil,List.length_map]
 | m+1,j,K,at_,h,h1,h2,h3=>by
  have d:decide ((j:Int)<((L.length:Nat):Int))=true:=decide_eq_true (by omega)
  have n0:decide ((0:Int)≤(j:Int))=true:=decide_eq_true (by omega)
  have n1:decide ((j:Int)<((rchL F).length:Int))=true:=decide_eq_true (by rw [rch_len]; omega)
  have n2:decide ((j:Int)<((ints at_).length:Int))=true:=decide_eq_true (by rw [ints_len]; omega)
  have hw:IntKind.i64.wrap ((j:Int)+1)=((j+1:Nat):Int):=by rw [wrap64 (by omega) (by omega)]; simp
  have hlt:j<L.length:=by omega
  have hltF:j<F.length:=by omega
  have hg:(L.map insT)[j]? =some (insT L[j]):=by rw [List.getElem?_map,List.getElem?_eq_getElem hlt]; rfl
  have hle:=at_le F j
  have hset:(ints at_).set j (T.int .i64 ((K.map insT).length:Int))=ints (at_.set j (atN F j:Int)):=by
   unfold ints
   rw [List.map_set,List.length_map,h3]
  have hat:∀k,k<j+1→(at_.set j (atN F j:Int))[k]? =some (atN F k:Int):=by
   intro k hk
   rw [List.getElem?_set]
   by_cases e:j=k
   ·rw [if_pos e,if_pos (by omega),e]
   ·rw [if_neg e]; exact h2 k (by omega)
  have ih:=fun K' h3'=>trim7 r a i z L F hF hb x0 x1 x2 xz xl m (j+1) K' (at_.set j (atN F j:Int)) (by omega) (by rw [List.length_set]; exact h1) hat h3'
  have hFj:F[j]? =some F[j]:=List.getElem?_eq_getElem hltF
  have start:∀X,(L17_7 z (L.map insT) ((L.length:Nat):Int) (j:Int) r a i (!K.isEmpty) (K.map insT) x0 x1 x2 xz xl r a i z (L.map insT) true (bitsL F) true (rchL F) true (ints at_)=X)↔
    (bif (F[j]).isSome then L17_7 z (L.map insT) ((L.length:Nat):Int) ((j+1:Nat):Int) r a i (!K.isEmpty || true) (K.map insT++[insT L[j]]) x0 x1 x2 xz xl r a i z (L.map insT) true (bitsL F) true (rchL F) true (ints (at_.set j (atN F j:Int)))
     else L17_7 z (L.map insT) ((L.length:Nat):Int) ((j+1:Nat):Int) r a i (!K.isEmpty) (K.map insT) x0 x1 x2 xz xl r a i z (L.map insT) true (bitsL F) true (rchL F) true (ints (at_.set j (atN F j:Int))))=X:=by
   intro X
   rw [L17_7_eq,RL17_7,d,ct,needC_true n0,Int.toNat_natCast,getT_at hg]
   have hi2:insT L[j]= .agg [.int .i64 (L[j]).op, .int .i64 (L[j]).a, .int .i64 (L[j]).b, .int .i64 (L[j]).c, .int .i64 (L[j]).n]:=rfl
   rw [hi2,asA_agg,consT_cons,asI_int,consT_cons,asI_int,consT_cons,asI_int,consT_cons,asI_int,consT_cons,asI_int,endT_nil,n0,n2,bTA,needC_t,bTA,needC_t,setT_at _ (by rw [ints_len]; omega),hset,n1,needC_t,getT_at (rch_at hFj),asB_bool,hw,needC_true (app5_ok (by rw [List.length_map]; omega))]
  rw [List.drop_eq_getElem_cons hlt,List.drop_eq_getElem_cons hltF,keep_cons]
  cases ho:F[j] with
  | none=>
   rw [ho] at start hFj
   obtain ⟨at2,g1,g2,g3⟩:=ih K (by rw [at_skip F j hFj]; exact h3)
   refine ⟨at2,g1,g2,(start _).2 ?_⟩
   rw [Option.isSome_none,cf,cf]
   exact g3
  | some b=>
   rw [ho] at start hFj
   obtain ⟨at2,g1,g2,g3⟩:=ih (K++[L[j]]) (by rw [at_succ F j b hFj,List.length_append,h3]; rfl)
   refine ⟨at2,g1,g2,(start _).2 ?_⟩
   rw [Option.isSome_some,ct,ct,bOT]
   rw [List.append_assoc] at g3
   have e1:(!(K++[L[j]]).isEmpty)=true:=by cases K <;>rfl
   have e2:(K++[L[j]]).map insT=K.map insT++[insT L[j]]:=by rw [List.map_append]; rfl
   rw [e1,e2] at g3
   exact g3
theorem trim14(F:Fl)(n:Nat)(r a i x0 x1 x2:Int)(xz:Bool)(xl:List T)(at2:List Int)(hat:∀k,k<n→at2[k]? =some (atN F k:Int))(hl:at2.length=n)(K:List Ins)(hb:K.length≤300)
  (h10:∀x∈K,x.op=10→0≤x.a∧x.a<(n:Int)) (h11:∀x∈K,x.op=11∨x.op=12→0≤x.c∧x.c<(n:Int)):∀(m j:Nat),m+j=K.length→
  L17_14 ((K.length:Nat):Int) (j:Int) r a i true ((((K.take j).map (reT F))++K.drop j).map insT) x0 x1 x2 xz xl true (ints at2)=some (.tup [.agg [.t (.int .i64 r), .t (.int .i64 a), .t (.int .i64 i), .buf 500], .t (.int .i64 0)],⟨[(500, .arr true 5 true ((K.map (reT F)).map insT))],[500]⟩)
 | 0,j,h=>by
  have d:decide ((j:Int)<((K.length:Nat):Int))=false:=decide_eq_false (by omega)
  rw [L17_14_eq,RL17_14,d,cf,List.drop_of_length_le (by omega),List.take_of_length_le (by omega),List.append_nil]
 | m+1,j,h=>by
  have d:decide ((j:Int)<((K.length:Nat):Int))=true:=decide_eq_true (by omega)
  have hlt:j<K.length:=by omega
  have n0:decide ((0:Int)≤(j:Int))=true:=decide_eq_true (by omega)
  have hlen:(((K.take j).map (reT F)++K.drop j).map insT).length=K.length:=by
   rw [List.length_map,List.length_append,List.length_map,List.length_take,List.length_drop]
   omega
  have n1:decide ((j:Int)<((((K.take j).map (reT F)++K.drop j).map insT).length:Int))=true:=decide_eq_true (by rw [hlen]; omega)
  have hw:IntKind.i64.wrap ((j:Int)+1)=((j+1:Nat):Int):=by rw [wrap64 (by omega) (by omega)]; simp
  have htl:((K.take j).map (reT F)).length=j:=by rw [List.length_map,List.length_take]; omega
  have hM:((K.take j).map (reT F)++K.drop j)[j]? =some K[j]:=by
   rw [List.getElem?_append_right (by omega),htl,Nat.sub_self,List.drop_eq_getElem_cons hlt]
   rfl
  have hg:((((K.take j).map (reT F))++K.drop j).map insT)[j]? =some (insT K[j]):=by rw [List.getElem?_map,hM]; rfl
  have hnext:((((K.take j).map (reT F))++K.drop j).map insT).set j (insT (reT F K[j]))=((((K.take (j+1)).map (reT F))++K.drop (j+1)).map insT):=by
   have this:(K.take j++[K[j]]).map (reT F)=(K.take j).map (reT F)++[reT F K[j]]:=by rw [List.map_append]; rfl
   rw [←List.map_set,List.set_append_right _ _ (by omega),htl,Nat.sub_self,List.drop_eq_getElem_cons hlt,List.set_cons_zero,←List.take_append_getElem hlt,this,List.append_assoc]
   rfl
  have ih:=trim14 F n r a i x0 x1 x2 xz xl at2 hat hl K hb h10 h11 m (j+1) (by omega)
  rw [←hnext] at ih
  have hc:insT K[j]= .agg [.int .i64 (K[j]).op, .int .i64 (K[j]).a, .int .i64 (K[j]).b, .int .i64 (K[j]).c, .int .i64 (K[j]).n]:=rfl
  have c0:(T.cells (insT K[j]))[0]? =some (.int .i64 (K[j]).op):=rfl
  have c1:(T.cells (insT K[j]))[1]? =some (.int .i64 (K[j]).a):=rfl
  have c3:(T.cells (insT K[j]))[3]? =some (.int .i64 (K[j]).c):=rfl
  rw [L17_14_eq,RL17_14,d,ct,n0,n1,bTA,needC_t,Int.toNat_natCast,getT_at hg,getT_at c0,asI_int,hw]
  by_cases e10:(K[j]).op=10
  ·obtain ⟨q0,q1⟩:=h10 K[j] (List.getElem_mem hlt) e10
   have m0:decide ((0:Int)≤(K[j]).a)=true:=decide_eq_true q0
   have m1:decide ((K[j]).a<((ints at2).length:Int))=true:=decide_eq_true (by rw [ints_len]; omega)
   have ga:(ints at2)[((K[j]).a).toNat]? =some (.int .i64 (atN F ((K[j]).a).toNat:Int)):=by
    unfold ints
    rw [List.getElem?_map,hat _ (by omega)]
    rfl
   have hre:reT F K[j]=⟨(K[j]).op,(atN F ((K[j]).a).toNat:Int),(K[j]).b,(K[j]).c,(K[j]).n⟩:=by unfold reT; rw [decide_eq_true e10,ct]
   rw [decide_eq_true e10,ct,getT_at hg,getT_at c1,asI_int,m0,m1,bTA,needC_t,getT_at ga,asI_int,needC_t,getT_at hg,needC_true (b:=decide (1+1≤(T.cells (insT K[j])).length) &&Nat.ble 2 5) rfl]
   rw [hre] at ih
   exact ih
  ·rw [decide_eq_false e10,cf]
   by_cases e11:(K[j]).op=11
   ·obtain ⟨q0,q1⟩:=h11 K[j] (List.getElem_mem hlt) (.inl e11)
    have m0:decide ((0:Int)≤(K[j]).c)=true:=decide_eq_true q0
    have m1:decide ((K[j]).c<((ints at2).length:Int))=true:=decide_eq_true (by rw [ints_len]; omega)
    have ga:(ints at2)[((K[j]).c).toNat]? =some (.int .i64 (atN F ((K[j]).c).toNat:Int)):=by
     unfold ints
     rw [List.getElem?_map,hat _ (by omega)]
     rfl
    have hre:reT F K[j]=⟨(K[j]).op,(K[j]).a,(K[j]).b,(atN F ((K[j]).c).toNat:Int),(K[j]).n⟩:=by unfold reT; rw [decide_eq_false e10,cf,decide_eq_true e11,bTO,ct]
    rw [decide_eq_true e11,ct,getT_at hg,getT_at c3,asI_int,m0,m1,bTA,needC_t,getT_at ga,asI_int,needC_t,getT_at hg,needC_true (b:=decide (3+1≤(T.cells (insT K[j])).length) &&Nat.ble 2 5) rfl]
    rw [hre] at ih
    exact ih
   ·rw [decide_eq_false e11,cf]
    by_cases e12:(K[j]).op=12
    ·obtain ⟨q0,q1⟩:=h11 K[j] (List.getElem_mem hlt) (.inr e12)
     have m0:decide ((0:Int)≤(K[j]).c)=true:=decide_eq_true q0
     have m1:decide ((K[j]).c<((ints at2).length:Int))=true:=decide_eq_true (by rw [ints_len]; omega)
     have ga:(ints at2)[((K[j]).c).toNat]? =some (.int .i64 (atN F ((K[j]).c).toNat:Int)):=by
      unfold ints
      rw [List.getElem?_map,hat _ (by omega)]
      rfl
     have hre:reT F K[j]=⟨(K[j]).op,(K[j]).a,(K[j]).b,(atN F ((K[j]).c).toNat:Int),(K[j]).n⟩:=by unfold reT; rw [decide_eq_false e10,cf,decide_eq_true e12,bOT,ct]
     rw [decide_eq_true e12,ct,getT_at hg,getT_at c3,asI_int,m0,m1,bTA,needC_t,getT_at ga,asI_int,needC_t,getT_at hg,needC_true (b:=decide (3+1≤(T.cells (insT K[j])).length) &&Nat.ble 2 5) rfl]
     rw [hre] at ih
     exact ih
    ·have hre:reT F K[j]=K[j]:=by unfold reT; rw [decide_eq_false e10,cf,decide_eq_false e11,decide_eq_false e12,bFO,cf]
     have hs:((((K.take j).map (reT F))++K.drop j).map insT).set j (insT K[j])=((((K.take j).map (reT F))++K.drop j).map insT):=by
      refine List.ext_getElem? fun q=> ?_
      rw [List.getElem?_set]
      by_cases e:j=q
      ·rw [if_pos e,if_pos (by omega),←e,hg]
      ·rw [if_neg e]
     rw [hre,hs] at ih
     rw [decide_eq_false e12,cf]
     exact ih
theorem mem_keep{α:Type} :∀(l:List α) (F:Fl) (x:α),x∈keepG l F→x∈l
 | [],F,x,h=>by cases F <;>exact absurd h (by simp [keepG])
 | y::l,[],x,h=>absurd h (by simp [keepG])
 | y::l,o::F,x,h=>by
  rw [keep_cons] at h
  cases ho:o.isSome with
  | true=>
   rw [ho,ct] at h
   rcases List.mem_cons.1 h with rfl | h
   ·simp
   ·exact List.mem_cons_of_mem _ (mem_keep l F x h)
  | false=>rw [ho,cf] at h; exact List.mem_cons_of_mem _ (mem_keep l F x h)
theorem trim17(r a i:Int)(z:Bool)(L:List Ins)(hl:L.length≤300) :
  (checkB r a i L=false∧vr 17 0 [.t (cdT r a i z L)] e0=some (.tup [.agg [.t (.int .i64 0), .t (.int .i64 0), .t (.int .i64 0), .buf 500], .t (.int .i64 1)],⟨[(500, .arr true 5 false [])],[500]⟩))∨
  (checkB r a i L=true∧∃F,FlowOf L F∧vr 17 0 [.t (cdT r a i z L)] e0=some (.tup [.agg [.t (.int .i64 r), .t (.int .i64 a), .t (.int .i64 i), .buf 500], .t (.int .i64 0)],⟨[(500, .arr true 5 true ((trimL L F).map insT))],[500]⟩)):=by
 rcases start33 r a i z L (Nat.le_trans hl (by decide)) with ⟨h1,h2⟩ | ⟨h1,F,h2,h3⟩
 ·left
  refine ⟨h1, ?_⟩
  unfold cdT at h2 ⊢
  rw [eq17,R17,h2,callK_some]
  rfl
 ·right
  refine ⟨h1,F,h2, ?_⟩
  have hok:=(check_iff r a i L).1 h1
  have hfl:=Flow.of hok hl h2
  have h0:=at_lt (l:=L) hfl.same hfl.zero
  have hkl:=keep_len L F hfl.same
  have hle:=at_le F L.length
  obtain ⟨at2,g1,g2,g3⟩:=trim7 r a i z L F hfl.same hl 0 0 0 false [] L.length 0 [] (List.replicate L.length 0) (by omega) List.length_replicate (fun k hk=>absurd hk (Nat.not_lt_zero _)) (by rw [at_zero]; rfl)
  rw [List.drop_zero,List.drop_zero,List.nil_append] at g3
  have hne:(!(keepG L F).isEmpty)=true:=by
   cases hk:keepG L F with
   | nil=>rw [hk] at h0; exact absurd h0 (Nat.not_lt_zero _)
   | cons=>rfl
  have h4:∀n:Int,lim r a n 4=n:=fun n=>by unfold lim; simp
  have g4:=trim14 F L.length r a i 0 0 0 false [] at2 g2 g1 (keepG L F) (by omega) (fun x hx e=>by
   obtain ⟨_,hfa,_,_⟩:=fld_split r a _ _ (hok.may x (mem_keep L F x hx))
   have hk:(shOf x.op).k0=4:=by rw [e]; rfl
   rw [hk,h4,fldOk_iff] at hfa
   exact hfa) (fun x hx e=>by
   obtain ⟨_,_,_,hfc⟩:=fld_split r a _ _ (hok.may x (mem_keep L F x hx))
   have hk:(shOf x.op).k2=4:=by rcases e with e | e <;>(rw [e]; rfl)
   rw [hk,h4,fldOk_iff] at hfc
   exact hfc) (keepG L F).length 0 (by omega)
  rw [List.take_zero,List.map_nil,List.nil_append,List.drop_zero] at g4
  rw [hne] at g3
  have hrep:ints (List.replicate L.length 0)=List.replicate L.length (T.int .i64 0):=by unfold ints; rw [List.map_replicate]
  have hf:fitsH (.tup [.nilp,(.t (.one (.int .i64)))]) [] (.tup [.ptr 500 0 0, .t (.int .i64 0)]) (flowS r a i z (L.map insT) F).blks=false:=by rfl
  have hz:(!decide ((0:Int)=0))=false:=rfl
  have e1:(((L.map insT).length:Int)).toNat=L.length:=by rw [List.length_map]; omega
  have n1:(decide (0≤((L.map insT).length:Int)) &&decide (((L.map insT).length:Int)≤((L.map insT).length:Int)) &&decide (((L.map insT).length:Int)*(8+1)≤70368744177664))=true:=by
   rw [List.length_map,decide_eq_true (by omega:(0:Int)≤(L.length:Int)),decide_eq_true (Int.le_refl _),decide_eq_true (by omega:(L.length:Int)*(8+1)≤70368744177664)]
   rfl
  unfold cdT at h3 ⊢
  rw [eq17,R17,h3,callK_some,hf,cf,asTup_tup,consV_cons,isPtr_ptr,consV_cons,asT_t,asI_int,endV_nil,consB_cons,asVar_var,consV_cons,asT_t,asI_int,consV_cons,asT_t,asI_int,consV_cons,asT_t,asI_int,consV_cons,asT_t,asL_list,consV_cons,isBuf_buf,consV_cons,isBuf_buf,endV_nil,consB_cons,asArr_arr,consB_cons,asArr_arr,endB_nil,hz,cf,needC_true n1,e1,←hrep]
  rw [List.length_map]
  refine Eq.trans g3 ?_
  exact g4
theorem r27_7(L:List Ins)(F:Fl)(hF:F.length=L.length)(hb:L.length≤300)(az z:Bool)(r a i:Int) :∀(m j:Nat) (at_:List Int),m+j=L.length→at_.length=L.length→(∀k,k<j→at_[k]? =some (atN F k:Int))→
  ∃at2:List Int,at2.length=L.length∧(∀k,k<L.length→at2[k]? =some (atN F k:Int))∧
  L27_7 az (rchL F) (atN F j:Int) (L.length:Int) (j:Int) r a i z (L.map insT) 0 0 0 false [] true (ints at_)=
   L27_15 az (rchL F) z (L.map insT) (L.length:Int) 0 0 0 0 false [] true (ints at2) r a i false []
 | 0,j,at_,h,h1,h2=>by
  have d:decide ((j:Int)<(L.length:Int))=false:=decide_eq_false (by omega)
  refine ⟨at_,h1,fun k hk=>h2 k (by omega), ?_⟩
  rw [L27_7_eq,RL27_7,d,cf,List.length_map]
 | m+1,j,at_,h,h1,h2=>by
  have d:decide ((j:Int)<(L.length:Int))=true:=decide_eq_true (by omega)
  have n0:decide ((0:Int)≤(j:Int))=true:=decide_eq_true (by omega)
  have n2:(decide ((0:Int)≤(j:Int)) &&decide ((j:Int)<((ints at_).length:Int)))=true:=by rw [ints_len,n0,decide_eq_true (by omega:(j:Int)<(at_.length:Int))]; rfl
  have hltF:j<F.length:=by omega
  have hle:=at_le F j
  have hFj:F[j]? =some F[j]:=List.getElem?_eq_getElem hltF
  have hset:(ints at_).set j (T.int .i64 (atN F j:Int))=ints (at_.set j (atN F j:Int)):=by
   unfold ints
   rw [List.map_set]
  have hat:∀k,k<j+1→(at_.set j (atN F j:Int))[k]? =some (atN F k:Int):=by
   intro k hk
   rw [List.getElem?_set]
   by_cases e:j=k
   ·rw [if_pos e,if_pos (by omega),e]
   ·rw [if_neg e]; exact h2 k (by omega)
  obtain ⟨at2,g1,g2,g3⟩:=r27_7 L F hF hb az z r a i m (j+1) (at_.set j (atN F j:Int)) (by omega) (by rw [List.length_set]; exact h1) hat
  refine ⟨at2,g1,g2, ?_⟩
  rw [L27_7_eq,RL27_7,d,ct,needC_true n2,bTA,needC_t,Int.toNat_natCast,setT_at _ (by rw [ints_len]; omega),hset,needC_true n0,getT_at (rch_at hFj),asB_bool,nat64 (by omega),nat64 (by omega)]
  cases ho:F[j] with
  | none=>
   rw [ho] at hFj
   rw [at_skip F j hFj] at g3
   rw [Option.isSome_none,cf]
   exact g3
  | some b=>
   rw [ho] at hFj
   rw [at_succ F j b hFj] at g3
   rw [Option.isSome_some,ct]
   exact g3
theorem r27_15(L:List Ins)(F:Fl)(hF:F.length=L.length)(hb:L.length≤300)(az z:Bool)(r a i:Int)(at2:List Int)(hat:∀k,k<L.length→at2[k]? =some (atN F k:Int))(hl2:at2.length=L.length)
  (h10:∀x∈L,x.op=10→0≤x.a∧x.a<(L.length:Int)) (h11:∀x∈L,x.op=11∨x.op=12→0≤x.c∧x.c<(L.length:Int)):∀(m j:Nat) (out:List Ins),m+j=L.length→out.length≤j→
  L27_15 az (rchL F) z (L.map insT) (L.length:Int) (j:Int) 0 0 0 false [] true (ints at2) r a i (!out.isEmpty) (out.map insT)=
   some (.tup [.t (cdT r a i (!(out++(keepG (L.drop j) (F.drop j)).map (reT F)).isEmpty) (out++(keepG (L.drop j) (F.drop j)).map (reT F))), .t (.int .i64 0)],e0)
 | 0,j,out,h,ho=>by
  have d:decide ((j:Int)<(L.length:Int))=false:=decide_eq_false (by omega)
  have e:keepG (L.drop j) (F.drop j)=[]:=by rw [List.drop_of_length_le (by omega)]; rfl
  rw [L27_15_eq,RL27_15,d,cf,e,List.map_nil,List.append_nil]
  rfl
 | m+1,j,out,h,ho=>by
  have d:decide ((j:Int)<(L.length:Int))=true:=decide_eq_true (by omega)
  have n0:decide ((0:Int)≤(j:Int))=true:=decide_eq_true (by omega)
  have hlt:j<L.length:=by omega
  have hltF:j<F.length:=by omega
  have hFj:F[j]? =some F[j]:=List.getElem?_eq_getElem hltF
  have ih:=fun out' h'=>r27_15 L F hF hb az z r a i at2 hat hl2 h10 h11 m (j+1) out' (by omega) h'
  have hM:=List.getElem_mem hlt
  have ga:∀v:Int,0≤v→v<(L.length:Int)→(ints at2)[v.toNat]? =some (.int .i64 (atN F v.toNat:Int)):=by
   intro v v0 v1
   unfold ints
   rw [List.getElem?_map,hat _ (by omega)]
   rfl
  have gn:∀v:Int,0≤v→v<(L.length:Int)→(decide ((0:Int)≤v) &&decide (v<((ints at2).length:Int)))=true:=by
   intro v v0 v1
   rw [ints_len,hl2,decide_eq_true v0,decide_eq_true v1]
   rfl
  have join:∀y:Ins,reT F L[j]=y→L27_15 az (rchL F) z (L.map insT) (L.length:Int) ((j+1:Nat):Int) 0 0 0 false [] true (ints at2) r a i (!out.isEmpty || true) (out.map insT++[insT y])=some (.tup [.t (cdT r a i (!(out++(L[j]::keepG (L.drop (j+1)) (F.drop (j+1))).map (reT F)).isEmpty) (out++(L[j]::keepG (L.drop (j+1)) (F.drop (j+1))).map (reT F))), .t (.int .i64 0)],e0):=by
   intro y hy
   subst hy
   have hs:=ih (out++[reT F L[j]]) (by rw [List.length_append]; show _+1≤_; omega)
   have hne:(!(out++[reT F L[j]]).isEmpty)=true:=by cases out <;>rfl
   have e2:(out++[reT F L[j]]).map insT=out.map insT++[insT (reT F L[j])]:=by rw [List.map_append]; rfl
   rw [hne,e2,List.append_assoc] at hs
   rw [bOT,List.map_cons]
   exact hs
  rw [List.drop_eq_getElem_cons hlt,List.drop_eq_getElem_cons hltF,keep_cons,L27_15_eq,RL27_15,d,ct,needC_true n0,Int.toNat_natCast,getT_at (insM_at hlt),insU,asA_agg,consT_cons,asI_int,consT_cons,asI_int,consT_cons,asI_int,consT_cons,asI_int,consT_cons,asI_int,endT_nil,needC_true n0,getT_at (rch_at hFj),asB_bool,nat64 (by omega)]
  cases ho2:F[j] with
  | none=>
   rw [Option.isSome_none,bNF,ct,cf]
   exact ih out (by omega)
  | some b=>
   rw [Option.isSome_some,bNT,cf,ct]
   have hj:∀q0 q1 q2 q3 q4,J27_24 az (rchL F) z (L.map insT) (L.length:Int) (j:Int) 0 0 0 false [] true (ints at2) r a i (!out.isEmpty) (out.map insT) q0 q1 q2 q3 q4=L27_15 az (rchL F) z (L.map insT) (L.length:Int) ((j+1:Nat):Int) 0 0 0 false [] true (ints at2) r a i (!out.isEmpty || true) (out.map insT++[insT ⟨q0,q1,q2,q3,q4⟩]):=by
    intro q0 q1 q2 q3 q4
    rw [J27_24_eq,RJ27_24,needC_true (app5_ok (by rw [List.length_map]; omega)),nat64 (by omega)]
    rfl
   by_cases e10:(L[j]).op=10
   ·obtain ⟨q0,q1⟩:=h10 L[j] hM e10
    rw [decide_eq_true e10,ct,needC_true (gn _ q0 q1),getT_at (ga _ q0 q1),asI_int,hj]
    exact join _ (by unfold reT; rw [decide_eq_true e10,ct])
   ·rw [decide_eq_false e10,cf]
    by_cases e11:(L[j]).op=11
    ·obtain ⟨q0,q1⟩:=h11 L[j] hM (.inl e11)
     rw [decide_eq_true e11,ct,needC_true (gn _ q0 q1),getT_at (ga _ q0 q1),asI_int,hj]
     exact join _ (by unfold reT; rw [decide_eq_false e10,cf,decide_eq_true e11,bTO,ct])
    ·rw [decide_eq_false e11,cf]
     by_cases e12:(L[j]).op=12
     ·obtain ⟨q0,q1⟩:=h11 L[j] hM (.inr e12)
      rw [decide_eq_true e12,ct,needC_true (gn _ q0 q1),getT_at (ga _ q0 q1),asI_int,hj]
      exact join _ (by unfold reT; rw [decide_eq_false e10,cf,decide_eq_true e12,bOT,ct])
     ·rw [decide_eq_false e12,cf,hj]
      exact join _ (by unfold reT; rw [decide_eq_false e10,cf,decide_eq_false e11,decide_eq_false e12,bFO,cf])
theorem jumps_in{r a i:Int}{L:List Ins}(hok:Okc r a i L) :(∀x∈L,x.op=10→0≤x.a∧x.a<(L.length:Int))∧(∀x∈L,x.op=11∨x.op=12→0≤x.c∧x.c<(L.length:Int)):=by
 have h4:∀n:Int,lim r a n 4=n:=fun n=>by unfold lim; simp
 refine ⟨fun x hx e=> ?_,fun x hx e=> ?_⟩
 ·obtain ⟨_,hfa,_,_⟩:=fld_split r a _ _ (hok.may x hx)
  have hk:(shOf x.op).k0=4:=by rw [e]; rfl
  rw [hk,h4,fldOk_iff] at hfa
  exact hfa
 ·obtain ⟨_,_,_,hfc⟩:=fld_split r a _ _ (hok.may x hx)
  have hk:(shOf x.op).k2=4:=by rcases e with e | e <;>(rw [e]; rfl)
  rw [hk,h4,fldOk_iff] at hfc
  exact hfc
theorem trim27(r a i:Int)(z:Bool)(L:List Ins)(hl:L.length≤300)(hc:checkB r a i L=true){F:Fl}(hF:FlowOf L F) :vr 27 0 [.t (cdT r a i z L)] e0=some (.tup [.t (cdT r a i true (trimL L F)), .t (.int .i64 0)],e0):=by
 have hl4:L.length≤400:=by omega
 have h1:=reach23 r a i z L hl4
 have hok:=(check_iff r a i L).1 hc
 have hfl:=Flow.of hok hl hF
 have h0:=at_lt (l:=L) hfl.same hfl.zero
 have hne:(!(trimL L F).isEmpty)=true:=by
  unfold trimL
  cases hk:keepG L F with
  | nil=>rw [hk] at h0; exact absurd h0 (Nat.not_lt_zero _)
  | cons=>rfl
 obtain ⟨at2,g1,g2,g3⟩:=r27_7 L F hfl.same hl true z r a i L.length 0 (List.replicate L.length 0) (by omega) List.length_replicate (fun k hk=>absurd hk (Nat.not_lt_zero _))
 obtain ⟨j1,j2⟩:=jumps_in hok
 have g4:=r27_15 L F hfl.same hl true z r a i at2 g2 g1 j1 j2 L.length 0 [] (Nat.add_zero _) (Nat.le_refl _)
 rw [List.drop_zero,List.drop_zero,List.nil_append] at g4
 have hrep:ints (List.replicate L.length 0)=List.replicate L.length (T.int .i64 0):=by unfold ints; rw [List.map_replicate]
 have g5:_=some (V.tup [.t (cdT r a i (!(trimL L F).isEmpty) (trimL L F)), .t (.int .i64 0)],e0):=g3.trans g4
 have e1:(((L.map insT).length:Int)).toNat=L.length:=by rw [List.length_map]; omega
 have n1:(decide (0≤((L.map insT).length:Int)) &&decide (((L.map insT).length:Int)≤((L.map insT).length:Int)) &&decide (((L.map insT).length:Int)*(8+1)≤70368744177664))=true:=by
  rw [List.length_map,decide_eq_true (by omega:(0:Int)≤(L.length:Int)),decide_eq_true (Int.le_refl _),decide_eq_true (by omega:(L.length:Int)*(8+1)≤70368744177664)]
  rfl
 have hz:(!decide ((0:Int)=0))=false:=rfl
 rw [hne,hrep,at_zero] at g5
 rw [hc,bls_reach hok hl4 hF] at h1
 unfold cdT at h1 ⊢
 rw [eq27,R27,h1,callK_some,ct,asTup_tup,consV_cons,asT_t,asL_list,consV_cons,asT_t,asI_int,endV_nil,endB_nil,hz,cf,needC_true n1,e1,List.length_map]
 exact g5
end Go.Proofs.Ytgkdkjjohknfpaa.VM
end
section
namespace Go.Proofs.Ytgkdkjjohknfpaa.VM
set_option linter.unusedSectionVars false
set_option linter.unusedVariables false
open Go AM
theorem bools29(z1 z2:Bool)(a:List Bool)(hb:a.length≤1000) :vr 29 0 [.t (.list 1 z1 (bls a)), .t (.list 1 z2 (bls a))] e0=some (.t (.bool true),e0):=by
 have h2:∀(m j:Nat),m+j=a.length→L29_4 z1 (bls a) z2 (bls a) (a.length:Int) (j:Int)=some (.t (.bool true),e0):=by
  intro m
  induction m with
  | zero=>
   intro j h
   have d:decide ((j:Int)<(a.length:Int))=false:=decide_eq_false (by omega)
   rw [L29_4_eq,RL29_4,d,cf]
  | succ m ih=>
   intro j h
   have d:decide ((j:Int)<(a.length:Int))=true:=decide_eq_true (by omega)
   have n0:decide ((0:Int)≤(j:Int))=true:=decide_eq_true (by omega)
   have hlt:a[j]? =some a[j]:=List.getElem?_eq_getElem (by omega)
   rw [L29_4_eq,RL29_4,d,ct,needC_true n0,Int.toNat_natCast,getT_at (bls_at hlt),asB_bool,needC_true n0,getT_at (bls_at hlt),asB_bool,nat64 (by omega),ih (j+1) (by omega)]
   cases a[j] <;>rfl
 rw [eq29,R29,decide_eq_true rfl,bNT,cf,bls_len]
 exact h2 a.length 0 (Nat.add_zero _)
abbrev lls(l:List (List Int)) :List T:=l.map fun r=> .list 1 (!r.isEmpty) (ints r)
theorem lls_at{l:List (List Int)}{j:Nat}(h:j<l.length) :(lls l)[j]? =some (.list 1 (!(l[j]).isEmpty) (ints l[j])):=by
 rw [List.getElem?_map,List.getElem?_eq_getElem h]
 rfl
theorem l22_9(z1 z2:Bool)(l:List (List Int))(i:Nat)(hi:i<l.length)(hb:l.length≤1000)(hr:(l[i]).length≤1000) :∀(m j:Nat),m+j=(l[i]).length→
  L22_9 z1 (lls l) z2 (lls l) (i:Int) (l.length:Int) (i:Int) ((l[i]).length:Int) (j:Int)=L22_4 z1 (lls l) z2 (lls l) (l.length:Int) ((i+1:Nat):Int)
 | 0,j,h=>by
  have d:decide ((j:Int)<((l[i]).length:Int))=false:=decide_eq_false (by omega)
  rw [L22_9_eq,RL22_9,d,cf,nat64 (by omega)]
 | m+1,j,h=>by
  have d:decide ((j:Int)<((l[i]).length:Int))=true:=decide_eq_true (by omega)
  have n0:decide ((0:Int)≤(j:Int))=true:=decide_eq_true (by omega)
  have n1:decide ((0:Int)≤(i:Int))=true:=decide_eq_true (by omega)
  have hlt:j<(l[i]).length:=by omega
  rw [L22_9_eq,RL22_9,d,ct,needC_true n1,Int.toNat_natCast,getT_at (lls_at hi),asL_list,needC_true n0,Int.toNat_natCast,getT_at (ints_at hlt),asI_int,needC_true n1,getT_at (lls_at hi),asL_list,needC_true n0,getT_at (ints_at hlt),asI_int,decide_eq_true rfl,bNT,cf,nat64 (by omega)]
  exact l22_9 z1 z2 l i hi hb hr m (j+1) (by omega)
theorem lists22(z1 z2:Bool)(l:List (List Int))(hb:l.length≤1000)(hr:∀r∈l,r.length≤1000) :vr 22 0 [.t (.list 1 z1 (lls l)), .t (.list 1 z2 (lls l))] e0=some (.t (.bool true),e0):=by
 have h2:∀(m j:Nat),m+j=l.length→L22_4 z1 (lls l) z2 (lls l) (l.length:Int) (j:Int)=some (.t (.bool true),e0):=by
  intro m
  induction m with
  | zero=>
   intro j h
   have d:decide ((j:Int)<(l.length:Int))=false:=decide_eq_false (by omega)
   rw [L22_4_eq,RL22_4,d,cf]
  | succ m ih=>
   intro j h
   have d:decide ((j:Int)<(l.length:Int))=true:=decide_eq_true (by omega)
   have n0:decide ((0:Int)≤(j:Int))=true:=decide_eq_true (by omega)
   have hlt:j<l.length:=by omega
   have h9:=l22_9 z1 z2 l j hlt hb (hr _ (List.getElem_mem hlt)) (l[j]).length 0 (Nat.add_zero _)
   rw [L22_4_eq,RL22_4,d,ct,needC_true n0,Int.toNat_natCast,getT_at (lls_at hlt),asL_list,needC_true n0,getT_at (lls_at hlt),asL_list,decide_eq_true rfl,bNT,cf,needC_true n0,getT_at (lls_at hlt),asL_list,ints_len]
   exact h9.trans (ih (j+1) (by omega))
 have e:(lls l).length=l.length:=List.length_map _
 rw [eq22,R22,decide_eq_true rfl,bNT,cf,e]
 exact h2 l.length 0 (Nat.add_zero _)
theorem same31(r a i:Int)(z z2:Bool)(L:List Ins)(hb:L.length≤400) :vr 31 0 [.t (cdT r a i z L), .t (cdT r a i z2 L)] e0=some (.t (.bool true),e0):=by
 have h2:∀(m j:Nat),m+j=L.length→L31_4 (L.length:Int) (j:Int) r a i z (L.map insT) r a i z2 (L.map insT)=some (.t (.bool true),e0):=by
  intro m
  induction m with
  | zero=>
   intro j h
   have d:decide ((j:Int)<(L.length:Int))=false:=decide_eq_false (by omega)
   rw [L31_4_eq,RL31_4,d,cf]
  | succ m ih=>
   intro j h
   have d:decide ((j:Int)<(L.length:Int))=true:=decide_eq_true (by omega)
   have n0:decide ((0:Int)≤(j:Int))=true:=decide_eq_true (by omega)
   have hlt:j<L.length:=by omega
   rw [L31_4_eq,RL31_4,d,ct,needC_true n0,Int.toNat_natCast,getT_at (insM_at hlt),insU,asA_agg,consT_cons,asI_int,consT_cons,asI_int,consT_cons,asI_int,consT_cons,asI_int,consT_cons,asI_int,endT_nil,needC_true n0,getT_at (insM_at hlt),insU,asA_agg,consT_cons,asI_int,consT_cons,asI_int,consT_cons,asI_int,consT_cons,asI_int,consT_cons,asI_int,endT_nil,decide_eq_true rfl,decide_eq_true rfl,decide_eq_true rfl,decide_eq_true rfl,decide_eq_true rfl,nat64 (by omega)]
   exact ih (j+1) (by omega)
 unfold cdT
 rw [eq31,R31,decide_eq_true rfl,decide_eq_true rfl,decide_eq_true rfl,decide_eq_true rfl,bNT,cf,cf,cf,cf,List.length_map]
 exact h2 L.length 0 (Nat.add_zero _)
section
variable {A z8 z10 z12 z14 z22 z24:Bool} {B:List Bool} {X:List (List Int)} {P U:List Int} {e:Int} {r a i:Int} {z:Bool} {L:List Ins} {w:Bool} {ce:Int}
theorem tells_end(hB:B.length≤1000)(hX:X.length≤1000)(hX2:∀r∈X,r.length≤1000)(hP:P.length≤1000)(hU:U.length≤1000)(hL:L.length≤400)
  (h14:vr 14 0 [.t (cdT r a i z L)] e0=some (.t (.int .i64 ce),e0)) (h30:vr 30 0 [.t (cdT r a i z L)] e0=some (.t (.int .i64 ce),e0))
  (M N O R S V:Int) (p q:Bool) (Q W:List T) (hQ:Q.length=W.length) (D:Nat) (hD:D=W.length):
  L7_16 true A (bls B) e z8 (bls B) e z10 (lls X) e z12 (lls X) e z14 (ints P) e z22 (ints P) e e e w (ints U) e z24 (ints U) e (D:Int) (D:Int) r a i z (L.map insT) (!(L.map insT).isEmpty) (L.map insT) M N O p Q R S V q W=some (.t (.bool true),e0):=by
 have d:decide ((D:Int)<(D:Int))=false:=decide_eq_false (by omega)
 have d2:decide ((Q.length:Int)=(W.length:Int))=true:=decide_eq_true (by rw [hQ])
 have h1:=bools29 A z8 B hB
 have h2:=lists22 z10 z12 X hX hX2
 have h3:=equal20 z14 z22 P (by omega)
 have h4:=equal20 w z24 U (by omega)
 have h5:=same31 r a i z (!(L.map insT).isEmpty) L hL
 unfold cdT at h14 h30 h5
 rw [L7_16_eq,RL7_16,d,cf,ct,h1,callK_some,asT_t,asB_bool,endB_nil,ct,decide_eq_true rfl,ct,h2,callK_some,asT_t,asB_bool,endB_nil,ct,ct,h3,callK_some,asT_t,asB_bool,endB_nil,ct,ct,d2,ct,ct,h4,callK_some,asT_t,asB_bool,endB_nil,ct,ct,h14,callK_some,asT_t,asI_int,endB_nil,h30,callK_some,asT_t,asI_int,endB_nil,decide_eq_true rfl,ct,h5,callK_some,asT_t,asB_bool,endB_nil]
theorem tells_loop(hB:B.length≤1000)(hX:X.length≤1000)(hX2:∀r∈X,r.length≤1000)(hP:P.length≤1000)(hU:U.length≤1000)(hL:L.length≤400)
  (h14:vr 14 0 [.t (cdT r a i z L)] e0=some (.t (.int .i64 ce),e0)) (h30:vr 30 0 [.t (cdT r a i z L)] e0=some (.t (.int .i64 ce),e0))
  (M N O R S V:Int) (q:Bool) (K:List Ins) (hK:K.length≤1000):∀(m j:Nat) (Q:List T),m+j=K.length→Q.length=K.length→(∀k (h:k<K.length),j≤k→Q[k]? =some (insT K[k]))→
  L7_16 true A (bls B) 0 z8 (bls B) 0 z10 (lls X) 0 z12 (lls X) 0 z14 (ints P) 0 z22 (ints P) 0 0 0 w (ints U) 0 z24 (ints U) 0 (K.length:Int) (j:Int) r a i z (L.map insT) (!(L.map insT).isEmpty) (L.map insT) M N O true Q R S V q (K.map insT)=some (.t (.bool true),e0)
 | 0,j,Q,h,hl,hQ=>by
  have e:j=K.length:=by omega
  subst e
  exact tells_end hB hX hX2 hP hU hL h14 h30 M N O R S V true q Q (K.map insT) (by rw [List.length_map]; exact hl) K.length (List.length_map _).symm
 | m+1,j,Q,h,hl,hQ=>by
  have d:decide ((j:Int)<(K.length:Int))=true:=decide_eq_true (by omega)
  have hlt:j<K.length:=by omega
  have n0:decide ((0:Int)≤(j:Int))=true:=decide_eq_true (by omega)
  have n1:(decide ((0:Int)≤(j:Int)) &&decide ((j:Int)<(Q.length:Int)))=true:=by rw [n0,decide_eq_true (by omega:(j:Int)<(Q.length:Int))]; rfl
  have n2:decide (((K.map insT).length:Int)≤(j:Int))=false:=decide_eq_false (by rw [List.length_map]; omega)
  have n3:(decide (0+1≤(T.cells (insT K[j])).length) &&Nat.ble 2 5)=true:=rfl
  have hz:decide ((0:Int)=0)=true:=rfl
  have hj:=hQ j hlt (Nat.le_refl _)
  have ih:=tells_loop hB hX hX2 hP hU hL h14 h30 M N O R S V q K hK m (j+1) (Q.set j (.agg (spliceT (T.cells (insT K[j])) 0 [.int .i64 (-1)]))) (by omega) (by rw [List.length_set]; exact hl) (fun k hk h2=>by rw [List.getElem?_set,if_neg (by omega)]; exact hQ k hk (by omega))
  rw [L7_16_eq,RL7_16,d,ct,hz,ct,n2,cf,needC_true n1,Int.toNat_natCast,getT_at hj,insU,asA_agg,consT_cons,asI_int,consT_cons,asI_int,consT_cons,asI_int,consT_cons,asI_int,consT_cons,asI_int,endT_nil,needC_true n0,getT_at (insM_at hlt),insU,asA_agg,consT_cons,asI_int,consT_cons,asI_int,consT_cons,asI_int,consT_cons,asI_int,consT_cons,asI_int,endT_nil,decide_eq_true rfl,decide_eq_true rfl,decide_eq_true rfl,decide_eq_true rfl,decide_eq_true rfl,bTA,bTA,bTA,bTA,bTA,bNT,cf,needC_true n1,needC_t,getT_at hj,needC_true n3,nat64 (by omega)]
  exact ih
end
theorem askL_len :∀(L:List Ins) (F:Fl) (j:Nat),(askL L F j).length≤L.length
 | [],F,j=>by unfold askL; exact Nat.le_refl _
 | x::L,[],j=>by unfold askL; exact Nat.zero_le _
 | x::L,o::F,j=>by
  have:=askL_len L F (j+1)
  rw [askL_cons,List.length_append,List.length_cons]
  cases o.isSome &&asksB x (o.getD (0,0)) with
  | false=>show 0+_≤_; omega
  | true=>show 1+_≤_; omega
theorem places_len(p:Ins→Int→Bool) :∀(L:List Ins) (F:Fl) (j:Nat),(placeL p L F j).length≤L.length
 | [],F,j=>by unfold placeL; exact Nat.le_refl _
 | x::L,[],j=>by unfold placeL; exact Nat.zero_le _
 | x::L,o::F,j=>by
  have:=places_len p L F (j+1)
  rw [places_cons,List.length_append,List.length_cons]
  cases o.isSome &&p x (j:Int) with
  | false=>show 0+_≤_; omega
  | true=>show 1+_≤_; omega
theorem tells_spec(x0:T)(f0:FitT codeTy true x0) :∃st,vr 7 0 [.t x0] ⟨[],[]⟩=some (.t (.bool true),st):=by
 obtain ⟨r,a,i,z,L,rfl,_,_,_⟩:=code_of f0
 refine ⟨e0, ?_⟩
 have h8:=live8
 have hf:=few13 r a i z L
 have hu:∀r a i z L,cdT r a i z L= .agg [.int .i64 r, .int .i64 a, .int .i64 i, .list 5 z (L.map insT)]:=fun _ _ _ _ _=>rfl
 by_cases hl:L.length≤300
 ·have hl4:L.length≤400:=by omega
  have n1:(decide ((L.map insT).length*(40+1)≤70368744177664) &&decide (40≤1048576))=true:=by
   rw [List.length_map,decide_eq_true (by omega:L.length*(40+1)≤70368744177664)]; rfl
  have h23:=reach23 r a i z L hl4
  rcases reach13 r a i z L hl4 with ⟨hc,h13⟩ | ⟨hc,F,hF,h13⟩
  ·obtain ⟨h24,h26,h28,h30,h27⟩:=none15 r a i z L hl4 hc
   rcases set12 r a i z L hl4 with ⟨_,h12⟩ | ⟨h,_⟩
   rotate_left
   ·rw [hc] at h; cases h
   rcases unset25 r a i z L hl4 with ⟨_,h25⟩ | ⟨h,_⟩
   rotate_left
   ·rw [hc] at h; cases h
   rcases trim17 r a i z L hl with ⟨_,h17⟩ | ⟨h,_⟩
   rotate_left
   ·rw [hc] at h; cases h
   rcases loops10 r a i z L hl4 with ⟨_,h10⟩ | ⟨h,_⟩
   rotate_left
   ·rw [hc] at h; cases h
   rcases valid14 r a i z L hl4 with ⟨_,h14⟩ | ⟨h,_⟩
   rotate_left
   ·rw [hc] at h; cases h
   rw [hc,cf] at h23
   have he:=tells_end (A:=false) (z8:=false) (z10:=false) (z12:=false) (z14:=false) (z22:=false) (z24:=false) (w:=false) (B:=[]) (X:=[]) (P:=[]) (U:=[]) (e:=1) (Nat.zero_le _) (Nat.zero_le _) (fun r h=>by cases h) (Nat.zero_le _) (Nat.zero_le _) hl4 h14 h30 0 0 0 0 0 0 false false [] [] rfl 0 rfl
   rw [hu] at hf h13 h23 h12 h24 h25 h26 h17 h10 h28 ⊢
   rw [hu,hu] at h27
   rw [eq7,R7,h8,callK_some,asT_t,asB_bool,endB_nil,hf,callK_some,asT_t,asB_bool,endB_nil,decide_eq_true hl,bNT,cf,needC_true n1,h13,callK_some,asTup_tup,consV_cons,asT_t,asL_list,consV_cons,asT_t,asI_int,endV_nil,endB_nil,h23,callK_some,asTup_tup,consV_cons,asT_t,asL_list,consV_cons,asT_t,asI_int,endV_nil,endB_nil,h12,callK_some,asTup_tup,consV_cons,asT_t,asL_list,consV_cons,asT_t,asI_int,endV_nil,endB_nil,h24,callK_some,asTup_tup,consV_cons,asT_t,asL_list,consV_cons,asT_t,asI_int,endV_nil,endB_nil,h25,callK_some,asTup_tup,consV_cons,asT_t,asL_list,consV_cons,asT_t,asI_int,endV_nil,endB_nil,h26,callK_some,asTup_tup,consV_cons,asT_t,asL_list,consV_cons,asT_t,asI_int,endV_nil,endB_nil,
    h17,callK_some,asTup_tup,consV_cons,asG_agg,consV_cons,asT_t,asI_int,consV_cons,asT_t,asI_int,consV_cons,asT_t,asI_int,consV_cons,isBuf_buf,endV_nil,consV_cons,asT_t,asI_int,endV_nil,consB_cons,asArr_arr,endB_nil,h27,callK_some,asTup_tup,consV_cons,asT_t,asA_agg,consT_cons,asI_int,consT_cons,asI_int,consT_cons,asI_int,consT_cons,asL_list,endT_nil,consV_cons,asT_t,asI_int,endV_nil,endB_nil,h10,callK_some,asTup_tup,consV_cons,asT_t,asL_list,consV_cons,asT_t,asI_int,endV_nil,endB_nil,h28,callK_some,asTup_tup,consV_cons,asT_t,asL_list,consV_cons,asT_t,asI_int,endV_nil,endB_nil]
   exact he
  ·have hok:=(check_iff r a i L).1 hc
   have h24:=set24 r a i z L hl4 hc hF
   have h26:=unset26 r a i z L hl4 hc hF
   have h28:=loops28 r a i z L hl4 hc hF
   have h30:=check30 r a i z L hl4 hc hF
   have h27:=trim27 r a i z L hl hc hF
   rcases set12 r a i z L hl4 with ⟨h,_⟩ | ⟨_,F1,hF1,h12⟩
   ·rw [hc] at h; cases h
   rcases unset25 r a i z L hl4 with ⟨h,_⟩ | ⟨_,F2,hF2,h25⟩
   ·rw [hc] at h; cases h
   rcases trim17 r a i z L hl with ⟨h,_⟩ | ⟨_,F3,hF3,h17⟩
   ·rw [hc] at h; cases h
   rcases loops10 r a i z L hl4 with ⟨h,_⟩ | ⟨_,F4,hF4,h10⟩
   ·rw [hc] at h; cases h
   rcases valid14 r a i z L hl4 with ⟨h,_⟩ | ⟨_,F5,hF5,h14⟩
   ·rw [hc] at h; cases h
   rw [FlowOf.one hF hF1] at h12
   rw [FlowOf.one hF hF2] at h25
   rw [FlowOf.one hF hF3] at h17
   rw [FlowOf.one hF hF4] at h10
   rw [FlowOf.one hF hF5] at h14
   rw [hc,ct,bls_reach hok hl4 hF] at h23
   have c1:=(FlowOf.closed (fine_of hok hl4) (Nat.pos_of_ne_zero hok.len0) hF).1
   have hr1:=hok.r1
   have hlt:(trimL L F).length≤1000:=by
    unfold trimL
    rw [List.length_map,keep_len L F c1]
    have:=at_le F L.length
    omega
   have eB:bls (F.map Option.isSome)=rchL F:=by unfold bls rchL; rw [List.map_map]; rfl
   have eX:lls (F.map (setO r.toNat))=setsF r.toNat F:=by unfold lls setsF; rw [List.map_map]; rfl
   have he:=tells_loop (A:=true) (z8:=true) (z10:=true) (z12:=true) (z14:= !(askL L F 0).isEmpty) (z22:= !(askL L F 0).isEmpty) (w:= !(placeL backsB L F 0).isEmpty) (z24:= !(placeL backsB L F 0).isEmpty) (B:=F.map Option.isSome) (X:=F.map (setO r.toNat)) (P:=askL L F 0) (U:=placeL backsB L F 0) (by rw [List.length_map]; omega) (by rw [List.length_map]; omega) (fun q hq=>by
     obtain ⟨o,_,rfl⟩:=List.mem_map.1 hq
     cases o with
     | none=>exact Nat.zero_le _
     | some b=>have:=setR_len b r.toNat 0; show (setR b 0 r.toNat).length≤1000; omega) (by have:=askL_len L F 0; omega) (by have:=places_len backsB L F 0; omega) hl4 h14 h30 r a i r a i true (trimL L F) hlt (trimL L F).length 0 ((trimL L F).map insT) (Nat.add_zero _) (List.length_map _) (fun k hk _=>insM_at hk)
   rw [eB,eX] at he
   unfold numsV at h25 h26 h10 h28
   rw [hu] at hf h13 h23 h12 h24 h25 h26 h17 h10 h28 ⊢
   rw [hu,hu] at h27
   rw [eq7,R7,h8,callK_some,asT_t,asB_bool,endB_nil,hf,callK_some,asT_t,asB_bool,endB_nil,decide_eq_true hl,bNT,cf,needC_true n1,h13,callK_some,asTup_tup,consV_cons,asT_t,asL_list,consV_cons,asT_t,asI_int,endV_nil,endB_nil,h23,callK_some,asTup_tup,consV_cons,asT_t,asL_list,consV_cons,asT_t,asI_int,endV_nil,endB_nil,h12,callK_some,asTup_tup,consV_cons,asT_t,asL_list,consV_cons,asT_t,asI_int,endV_nil,endB_nil,h24,callK_some,asTup_tup,consV_cons,asT_t,asL_list,consV_cons,asT_t,asI_int,endV_nil,endB_nil,h25,callK_some,asTup_tup,consV_cons,asT_t,asL_list,consV_cons,asT_t,asI_int,endV_nil,endB_nil,h26,callK_some,asTup_tup,consV_cons,asT_t,asL_list,consV_cons,asT_t,asI_int,endV_nil,endB_nil,
    h17,callK_some,asTup_tup,consV_cons,asG_agg,consV_cons,asT_t,asI_int,consV_cons,asT_t,asI_int,consV_cons,asT_t,asI_int,consV_cons,isBuf_buf,endV_nil,consV_cons,asT_t,asI_int,endV_nil,consB_cons,asArr_arr,endB_nil,h27,callK_some,asTup_tup,consV_cons,asT_t,asA_agg,consT_cons,asI_int,consT_cons,asI_int,consT_cons,asI_int,consT_cons,asL_list,endT_nil,consV_cons,asT_t,asI_int,endV_nil,endB_nil,h10,callK_some,asTup_tup,consV_cons,asT_t,asL_list,consV_cons,asT_t,asI_int,endV_nil,endB_nil,h28,callK_some,asTup_tup,consV_cons,asT_t,asL_list,consV_cons,asT_t,asI_int,endV_nil,endB_nil,List.length_map]
   exact he
 ·rw [hu] at hf ⊢
  rw [eq7,R7,h8,callK_some,asT_t,asB_bool,endB_nil,hf,callK_some,asT_t,asB_bool,endB_nil,decide_eq_false hl,bNF,ct]
end Go.Proofs.Ytgkdkjjohknfpaa.VM
end
