/- Merged: Tu1 Tu2 Tu3. Conditions: none. -/
import Derived.Test.YtgkdkjjohknfpaaTe
import Derived.Test.YtgkdkjjohknfpaaRa
set_option linter.all false
section
namespace Go.Proofs.Ytgkdkjjohknfpaa.VM
set_option linter.unusedSectionVars false
set_option linter.unusedVariables false
open Go AM
def backIx(i:Int) :List Int→Nat→Int
 | [],_=> -1
 | k::l,j=>bif decide (k≤i) then (j:Int) else backIx i l (j+1)
theorem back_any(i:Int) :∀(l:List Int) (j:Nat),decide (0≤backIx i l j)=l.any fun k=>decide (k≤i)
 | [],_=>rfl
 | k::l,j=>by
  rw [List.any_cons,backIx]
  cases decide (k≤i) with
  | true=>exact decide_eq_true (Int.natCast_nonneg j)
  | false=>rw [cf,bFO]; exact back_any i l (j+1)
theorem L57v1_spec(i:Int)(z:Bool)(ks:List Int)(hb:ks.length≤1000) :∀(m j:Nat),m+j=ks.length→
  L57v1_2 z (ints ks) ((ks.length:Nat):Int) (j:Int) i=some (.t (.int .i64 (backIx i (ks.drop j) j)),⟨[(0, .var [.t (.int .i64 i)])],[500]⟩)
 | 0,j,h=>by
  have d:decide ((j:Int)<((ks.length:Nat):Int))=false:=decide_eq_false (by omega)
  rw [L57v1_2_eq,RL57v1_2,d,cf,List.drop_of_length_le (by omega)]
  rfl
 | m+1,j,h=>by
  have d:decide ((j:Int)<((ks.length:Nat):Int))=true:=decide_eq_true (by omega)
  have n0:decide ((0:Int)≤(j:Int))=true:=decide_eq_true (by omega)
  have hw:IntKind.i64.wrap ((j:Int)+1)=((j+1:Nat):Int):=by rw [wrap64 (by omega) (by omega)]; simp
  have hlt:j<ks.length:=by omega
  rw [L57v1_2_eq,RL57v1_2,d,ct,needC_true n0,Int.toNat_natCast,getT_at (ints_at hlt),asI_int,eq37,R37,callK_some,asT_t,asB_bool,consB_cons,asVar_var,consV_cons,asT_t,asI_int,endV_nil,endB_nil,hw,L57v1_spec i z ks hb m (j+1) (by omega),List.drop_eq_getElem_cons hlt,backIx]
  cases decide (ks[j]≤i) <;>rfl
def backsB(x:Ins)(i:Int) :Bool:=(nextL x i).any fun k=>decide (k≤i)
theorem loops35(x:Ins)(i:Int) :vr 35 0 [.t (.int .i64 i), .t (insT x)] e0=some (.t (.bool (backsB x i)),e0):=by
 have hx:=next17 x i
 have hl:=next_len x i
 have h57:=L57v1_spec i (!(nextL x i).isEmpty) (nextL x i) (by omega) (nextL x i).length 0 (by omega)
 rw [List.drop_zero] at h57
 unfold backsB
 rw [←back_any i _ 0]
 unfold insT at hx ⊢
 rw [eq35,R35,hx,callK_some]
 unfold numsV
 rw [asT_t,asL_list,endB_nil,eq36v1,R36v1,eq57v1,R57v1,ints_len]
 have h0:L57v1_2 (!(nextL x i).isEmpty) (ints (nextL x i)) ((nextL x i).length:Int) 0 i=L57v1_2 (!(nextL x i).isEmpty) (ints (nextL x i)) ((nextL x i).length:Int) ((0:Nat):Int) i:=rfl
 rw [h0,h57]
 rfl
def placeL(p:Ins→Int→Bool) :List Ins→Fl→Nat→List Int
 | x::L,o::F,j=>(bif o.isSome &&p x (j:Int) then [(j:Int)] else [])++placeL p L F (j+1)
 | _,_,_=>[]
theorem places_cons(p:Ins→Int→Bool)(x:Ins)(L:List Ins)(o:Option Bt)(F:Fl)(j:Nat) :placeL p (x::L) (o::F) j=(bif o.isSome &&p x (j:Int) then [(j:Int)] else [])++placeL p L F (j+1):=rfl
theorem L34v1_spec(r a i:Int)(z:Bool)(L:List Ins)(F:Fl)(hF:F.length=L.length)(hb:L.length≤400) :∀(m j:Nat) (oz:Bool) (out:List Int),m+j=L.length→out.length≤j→oz= !out.isEmpty→
  L34v1_2 z (L.map insT) ((L.length:Nat):Int) (j:Int) r a i z (L.map insT) true (bitsL F) true (rchL F) oz (ints out)=
   some (numsV (out++placeL backsB (L.drop j) (F.drop j) j),⟨flow0 r a i z (L.map insT) F,[500,501,502]⟩)
 | 0,j,oz,out,h,ho,hz=>by
  have d:decide ((j:Int)<((L.length:Nat):Int))=false:=decide_eq_false (by omega)
  rw [L34v1_2_eq,RL34v1_2,d,cf,List.drop_of_length_le (by omega)]
  have:placeL backsB [] (F.drop j) j=[]:=by unfold placeL; rfl
  rw [this,List.append_nil,hz]
 | m+1,j,oz,out,h,ho,hz=>by
  have d:decide ((j:Int)<((L.length:Nat):Int))=true:=decide_eq_true (by omega)
  have n0:decide ((0:Int)≤(j:Int))=true:=decide_eq_true (by omega)
  have n1:decide ((j:Int)<((rchL F).length:Int))=true:=decide_eq_true (by rw [rch_len]; omega)
  have hw:IntKind.i64.wrap ((j:Int)+1)=((j+1:Nat):Int):=by rw [wrap64 (by omega) (by omega)]; simp
  have hlt:j<L.length:=by omega
  have hltF:j<F.length:=by omega
  have hg:(L.map insT)[j]? =some (insT L[j]):=by rw [List.getElem?_map,List.getElem?_eq_getElem hlt]; rfl
  have hx:=loops35 L[j] (j:Int)
  have ih:=fun oz' out'=>L34v1_spec r a i z L F hF hb m (j+1) oz' out' (by omega)
  rw [L34v1_2_eq,RL34v1_2,d,ct,needC_true n0,Int.toNat_natCast,getT_at hg,List.drop_eq_getElem_cons hlt,List.drop_eq_getElem_cons hltF,places_cons]
  unfold insT at hx ⊢
  rw [asA_agg,consT_cons,asI_int,consT_cons,asI_int,consT_cons,asI_int,consT_cons,asI_int,consT_cons,asI_int,endT_nil,n0,n1,bTA,needC_t,getT_at (rch_at (List.getElem?_eq_getElem hltF)),asB_bool,hw]
  cases (F[j]).isSome with
  | false=>
   rw [cf,bFA,cf,List.nil_append]
   exact ih oz out (by omega) hz
  | true=>
   rw [ct,bTA,hx,callK_some,asT_t,asB_bool,endB_nil]
   cases backsB L[j] (j:Int) with
   | false=>
    rw [cf,cf,List.nil_append]
    exact ih oz out (by omega) hz
   | true=>
    have hi:ints out++[T.int .i64 (j:Int)]=ints (out++[(j:Int)]):=by unfold ints; rw [List.map_append]; rfl
    rw [ct,ct,needC_true (app_ok (by rw [ints_len]; omega)),hi]
    have hh:=ih (oz || true) (out++[(j:Int)]) (by rw [List.length_append]; simp only [List.length_cons,List.length_nil]; omega) (by rw [bOT]; cases out <;>rfl)
    rw [List.append_assoc] at hh
    exact hh
theorem places34(r a i:Int)(z:Bool)(L:List Ins)(F:Fl)(hF:F.length=L.length)(hb:L.length≤400) :
  vr 34 1 [.ptr 0 0 0, .fn 35 [] []] ⟨flow0 r a i z (L.map insT) F,[]⟩=some (numsV (placeL backsB L F 0),⟨flow0 r a i z (L.map insT) F,[500,501,502]⟩):=by
 have h:=L34v1_spec r a i z L F hF hb L.length 0 false [] (by omega) (Nat.le_refl _) rfl
 rw [List.drop_zero,List.drop_zero,List.nil_append] at h
 rw [eq34v1,R34v1,←h,List.length_map]
 rfl
theorem loops10(r a i:Int)(z:Bool)(L:List Ins)(hl:L.length≤400) :
  (checkB r a i L=false∧vr 10 0 [.t (cdT r a i z L)] e0=some (.tup [.t (.list 1 false []), .t (.int .i64 1)],e0))∨
  (checkB r a i L=true∧∃F,FlowOf L F∧vr 10 0 [.t (cdT r a i z L)] e0=some (.tup [numsV (placeL backsB L F 0), .t (.int .i64 0)],e0)):=by
 rcases start33 r a i z L hl with ⟨h1,h2⟩ | ⟨h1,F,h2,h3⟩
 ·left
  refine ⟨h1, ?_⟩
  unfold cdT at h2 ⊢
  rw [eq10,R10,h2,callK_some]
  rfl
 ·right
  refine ⟨h1,F,h2, ?_⟩
  have hok:=(check_iff r a i L).1 h1
  have hF:=(FlowOf.closed (fine_of hok hl) (Nat.pos_of_ne_zero hok.len0) h2).1
  have hp:=places34 r a i z L F hF hl
  have hf:fitsH (.tup [.nilp,(.t (.one (.int .i64)))]) [] (.tup [.ptr 500 0 0, .t (.int .i64 0)]) (flowS r a i z (L.map insT) F).blks=false:=by rfl
  have hz:(!decide ((0:Int)=0))=false:=rfl
  unfold cdT at h3 ⊢
  rw [eq10,R10,h3,callK_some,hf,cf,asTup_tup,consV_cons,isPtr_ptr,consV_cons,asT_t,asI_int,endV_nil,consB_cons,asVar_var,consV_cons,asT_t,asI_int,consV_cons,asT_t,asI_int,consV_cons,asT_t,asI_int,consV_cons,asT_t,asL_list,consV_cons,isBuf_buf,consV_cons,isBuf_buf,endV_nil,consB_cons,asArr_arr,consB_cons,asArr_arr,endB_nil,hz,cf,hp,callK_some]
  unfold numsV
  rw [asT_t,asL_list,consB_cons,asVar_var,consV_cons,asT_t,asI_int,consV_cons,asT_t,asI_int,consV_cons,asT_t,asI_int,consV_cons,asT_t,asL_list,consV_cons,isBuf_buf,consV_cons,isBuf_buf,endV_nil,consB_cons,asArr_arr,consB_cons,asArr_arr,endB_nil]
end Go.Proofs.Ytgkdkjjohknfpaa.VM
end
section
namespace Go.Proofs.Ytgkdkjjohknfpaa.VM
set_option linter.unusedSectionVars false
set_option linter.unusedVariables false
open Go AM
inductive PathB (L:List Ins) (but:Int):Nat→Prop
 | zero:PathB L but 0
 | step {i k:Nat} (h:i<L.length):PathB L but i→¬(writesB L[i]=true∧L[i].a=but)→(k:Int)∈nextL L[i] (i:Int)→PathB L but k
def setsB(x:Ins)(but:Int) :Bool:=writesB x &&decide (x.a=but)
def goR(ks:List Int)(out:List Bool) :List Bool:=ks.foldl (fun o k=>o.set k.toNat true) out
def stepR(L:List Ins)(but:Int)(out:List Bool)(i:Nat) :List Bool:=
 match L[i]? with
 | some x=>bif (out[i]?).getD false then (bif setsB x but then out else goR (nextL x (i:Int)) out) else out
 | none=>out
def passR(L:List Ins)(but:Int)(out:List Bool) :List Bool:=(List.range L.length).foldl (stepR L but) out
def iterR(L:List Ins)(but:Int) :Nat→List Bool→List Bool
 | 0,out=>out
 | n+1,out=>iterR L but n (passR L but out)
def reachL(L:List Ins)(but:Int) :List Bool:=iterR L but L.length ((List.replicate L.length false).set 0 true)
def LeB(a b:List Bool) :Prop:=a.length=b.length∧∀k:Nat,a[k]? =some true→b[k]? =some true
theorem LeB.refl(a:List Bool) :LeB a a:=⟨rfl,fun _ h=>h⟩
theorem LeB.trans{a b c:List Bool}(h:LeB a b)(g:LeB b c) :LeB a c:=⟨h.1.trans g.1,fun k x=>g.2 k (h.2 k x)⟩
theorem LeB.anti{a b:List Bool}(h:LeB a b)(g:LeB b a) :a=b:=by
 refine List.ext_getElem? fun k=> ?_
 rcases Nat.lt_or_ge k a.length with hk | hk
 ·have hk2:k<b.length:=by rw [←h.1]; exact hk
  have h1:=h.2 k
  have h2:=g.2 k
  rw [List.getElem?_eq_getElem hk,List.getElem?_eq_getElem hk2] at*
  cases ha:a[k] <;>cases hb:b[k] <;>simp_all
 ·rw [List.getElem?_eq_none hk,List.getElem?_eq_none (by rw [←h.1]; exact hk)]
theorem set_le(a:List Bool)(k:Nat) :LeB a (a.set k true):=⟨(List.length_set ..).symm,fun j h=>by
 rw [List.getElem?_set]
 by_cases e:k=j
 ·have:j<a.length:=by
   rcases Nat.lt_or_ge j a.length with h1 | h1
   ·exact h1
   ·rw [List.getElem?_eq_none h1] at h; cases h
  rw [if_pos e,if_pos (by omega)]
 ·rw [if_neg e]; exact h⟩
theorem go_le :∀(ks:List Int) (out:List Bool),LeB out (goR ks out)
 | [],out=>LeB.refl _
 | k::ks,out=>(set_le out k.toNat).trans (go_le ks _)
theorem go_all :∀(ks:List Int) (out:List Bool) (k:Int),k∈ks→k.toNat<out.length→(goR ks out)[k.toNat]? =some true
 | [],_,_,h,_=>by cases h
 | q::ks,out,k,h,hk=>by
  show (goR ks (out.set q.toNat true))[k.toNat]? =some true
  rcases List.mem_cons.1 h with rfl | h
  ·refine (go_le ks _).2 _ ?_
   rw [List.getElem?_set,if_pos rfl,if_pos hk]
  ·exact go_all ks _ k h (by rw [List.length_set]; exact hk)
theorem go_only :∀(ks:List Int) (out:List Bool) (j:Nat),(goR ks out)[j]? =some true→out[j]? =some true∨∃k∈ks,k.toNat=j
 | [],out,j,h=> .inl h
 | q::ks,out,j,h=>by
  rcases go_only ks (out.set q.toNat true) j h with h1 | ⟨k,h1,h2⟩
  ·rw [List.getElem?_set] at h1
   by_cases e:q.toNat=j
   ·exact .inr ⟨q,by simp,e⟩
   ·rw [if_neg e] at h1; exact .inl h1
  ·exact .inr ⟨k,List.mem_cons_of_mem _ h1,h2⟩
theorem step_le(L:List Ins)(but:Int)(out:List Bool)(i:Nat) :LeB out (stepR L but out i):=by
 unfold stepR
 cases L[i]? with
 | none=>exact LeB.refl _
 | some x=>
  dsimp only
  cases (out[i]?).getD false with
  | false=>exact LeB.refl _
  | true=>
   cases setsB x but with
   | true=>exact LeB.refl _
   | false=>exact go_le _ _
theorem fold_le(L:List Ins)(but:Int) :∀(l:List Nat) (out:List Bool),LeB out (l.foldl (stepR L but) out)
 | [],out=>LeB.refl _
 | i::l,out=>(step_le L but out i).trans (fold_le L but l _)
theorem pass_le(L:List Ins)(but:Int)(out:List Bool) :LeB out (passR L but out):=fold_le L but _ out
theorem pass_fix{L:List Ins}{but:Int}{out:List Bool}(h:passR L but out=out)(i:Nat)(hi:i<L.length) :stepR L but out i=out:=by
 have hsplit:List.range L.length=List.range i++i::(List.range L.length).drop (i+1):=by
  have h1:=List.take_append_drop i (List.range L.length)
  rw [List.take_range,Nat.min_eq_left (by omega)] at h1
  have h2:(List.range L.length).drop i=i::(List.range L.length).drop (i+1):=by
   rw [List.drop_eq_getElem_cons (by rw [List.length_range]; exact hi),List.getElem_range]
  rw [h2] at h1
  exact h1.symm
 unfold passR at h
 rw [hsplit,List.foldl_append,List.foldl_cons] at h
 have a1:=fold_le L but (List.range i) out
 have a2:=step_le L but ((List.range i).foldl (stepR L but) out) i
 have a3:=fold_le L but ((List.range L.length).drop (i+1)) (stepR L but ((List.range i).foldl (stepR L but) out) i)
 rw [h] at a3
 have e1:=LeB.anti a1 (a2.trans a3)
 rw [←e1] at a2 a3
 exact (LeB.anti a2 a3).symm
def cntR(l:List Bool) :Nat:=(l.filter id).length
theorem cnt_le'(l:List Bool) :cntR l≤l.length:=List.length_filter_le ..
theorem cnt_mono :∀{a b:List Bool},LeB a b→cntR a≤cntR b∧(cntR a=cntR b→a=b)
 | [],[],_=>⟨Nat.le_refl _,fun _=>rfl⟩
 | [],_::_,h=>by simp [LeB] at h
 | _::_,[],h=>by simp [LeB] at h
 | x::a,y::b,h=>by
  have h':LeB a b:=⟨by simpa using h.1,fun k hk=>by simpa using h.2 (k+1) (by simpa using hk)⟩
  obtain ⟨i1,i2⟩:=cnt_mono h'
  have h0:=h.2 0
  unfold cntR at*
  cases x <;>cases y <;>simp_all
  exact ⟨by omega,by omega⟩
theorem iter_succ(L:List Ins)(but:Int) :∀(n:Nat) (out:List Bool),iterR L but (n+1) out=passR L but (iterR L but n out)
 | 0,out=>rfl
 | n+1,out=>by
  show iterR L but (n+1) (passR L but out)=_
  rw [iter_succ L but n (passR L but out)]
  rfl
theorem iter_le(L:List Ins)(but:Int) :∀(n:Nat) (out:List Bool),LeB out (iterR L but n out)
 | 0,out=>LeB.refl _
 | n+1,out=>(pass_le L but out).trans (iter_le L but n _)
theorem iter_cnt(L:List Ins)(but:Int)(out:List Bool) :∀n,passR L but (iterR L but n out)=iterR L but n out∨cntR out+n≤cntR (iterR L but n out)
 | 0=> .inr (Nat.le_refl _)
 | n+1=>by
  rcases iter_cnt L but out n with h | h
  ·left
   rw [iter_succ,h,h]
  ·have hp:=pass_le L but (iterR L but n out)
   obtain ⟨c1,c2⟩:=cnt_mono hp
   rcases Nat.lt_or_ge (cntR (iterR L but n out)) (cntR (passR L but (iterR L but n out))) with h1 | h1
   ·right
    rw [iter_succ]
    omega
   ·left
    have:=c2 (by omega)
    rw [iter_succ,←this,←this]
section
variable {r a i:Int} {L:List Ins}
theorem start_len(L:List Ins) :((List.replicate L.length false).set 0 true).length=L.length:=by rw [List.length_set,List.length_replicate]
theorem rea_len(but:Int) :(reachL L but).length=L.length:=by
 unfold reachL
 rw [←(iter_le L but _ _).1,start_len]
theorem reach_fix(h0:0<L.length)(but:Int) :passR L but (reachL L but)=reachL L but:=by
 rcases iter_cnt L but ((List.replicate L.length false).set 0 true) L.length with h | h
 ·exact h
 ·have h1:=cnt_le' (reachL L but)
  have h2:=rea_len (L:=L) but
  have h3:1≤cntR ((List.replicate L.length false).set 0 true):=by
   obtain ⟨n,hn⟩:∃n,L.length=n+1:=⟨L.length - 1,by omega⟩
   rw [hn,List.replicate_succ,List.set_cons_zero]
   unfold cntR
   simp
  unfold reachL at h1 h2
  omega
theorem reach_zero(h0:0<L.length)(but:Int) :(reachL L but)[0]? =some true:=by
 refine (iter_le L but _ _).2 0 ?_
 rw [List.getElem?_set,if_pos rfl,if_pos (by rw [List.length_replicate]; exact h0)]
theorem reach_closed(hok:Okc r a i L)(but:Int){j:Nat}(hj:j<L.length)(h:(reachL L but)[j]? =some true)(hs:setsB L[j] but=false) :∀k∈nextL L[j] (j:Int),(reachL L but)[k.toNat]? =some true:=by
 intro k hk
 have hf:=pass_fix (reach_fix (Nat.pos_of_ne_zero hok.len0) but) j hj
 unfold stepR at hf
 rw [List.getElem?_eq_getElem hj,h] at hf
 dsimp only at hf
 rw [hs] at hf
 obtain ⟨k0,k1⟩:=next_in hok (List.getElem?_eq_getElem hj) k hk
 have:=go_all (nextL L[j] (j:Int)) (reachL L but) k hk (by rw [rea_len]; omega)
 have hf:goR (nextL L[j] (j:Int)) (reachL L but)=reachL L but:=hf
 rw [hf] at this
 exact this
def SoundR(L:List Ins)(but:Int)(out:List Bool) :Prop:=∀k:Nat,out[k]? =some true→PathB L but k
theorem step_sound(hok:Okc r a i L){but:Int}{out:List Bool}(h:SoundR L but out)(j:Nat) :SoundR L but (stepR L but out j):=by
 unfold stepR
 cases hx:L[j]? with
 | none=>exact h
 | some x=>
  dsimp only
  obtain ⟨hj,hxj⟩:=List.getElem?_eq_some_iff.1 hx
  cases ho:(out[j]?).getD false with
  | false=>exact h
  | true=>
   have hoj:out[j]? =some true:=by
    cases hq:out[j]? with
    | none=>rw [hq] at ho; cases ho
    | some b=>rw [hq] at ho; have:b=true:=ho; rw [this]
   cases hs:setsB x but with
   | true=>exact h
   | false=>
    intro k hk
    have hk:(goR (nextL x (j:Int)) out)[k]? =some true:=hk
    rcases go_only _ _ _ hk with h1 | ⟨q,h1,h2⟩
    ·exact h k h1
    ·obtain ⟨q0,q1⟩:=next_in hok hx q h1
     refine PathB.step hj (h j hoj) (fun hw=> ?_) (k:=k) ?_
     ·rw [hxj] at hw
      unfold setsB at hs
      rw [hw.1,decide_eq_true hw.2] at hs
      cases hs
     ·rw [hxj,←h2,Int.toNat_of_nonneg q0]
      exact h1
theorem pass_sound(hok:Okc r a i L){but:Int} :∀(l:List Nat) {out:List Bool},SoundR L but out→SoundR L but (l.foldl (stepR L but) out)
 | [],out,h=>h
 | j::l,out,h=>pass_sound hok l (step_sound hok h j)
theorem iter_sound(hok:Okc r a i L){but:Int} :∀(n:Nat) {out:List Bool},SoundR L but out→SoundR L but (iterR L but n out)
 | 0,out,h=>h
 | n+1,out,h=>iter_sound hok n (pass_sound hok _ h)
theorem reach_iff(hok:Okc r a i L)(but:Int)(k:Nat) :(reachL L but)[k]? =some true↔PathB L but k:=by
 constructor
 ·intro h
  refine iter_sound hok L.length (fun j hj=> ?_) k h
  rw [List.getElem?_set] at hj
  by_cases e:0=j
  ·subst e; exact .zero
  ·rw [if_neg e] at hj
   rw [List.getElem?_replicate] at hj
   split at hj <;>cases hj
 ·intro h
  induction h with
  | zero=>exact reach_zero (Nat.pos_of_ne_zero hok.len0) but
  | step hi _ hs hk ih=>
   have:=reach_closed hok but hi ih (by
    unfold setsB
    cases hw:writesB _ with
    | false=>rfl
    | true=>
     refine decide_eq_false fun e=>hs ⟨hw,e⟩) _ hk
   rw [Int.toNat_natCast] at this
   exact this
/-! ### the flow -/
def btFrom(p:Nat→Bool) :Nat→Bt
 | 0=>(0,0)
 | m+1=>bif p m then withB (btFrom p m) m else btFrom p m
theorem bt_from(p:Nat→Bool) :∀(m:Nat),m≤128→∀n,n<128→hasB (btFrom p m) n=(decide (n<m) &&p n)
 | 0,_,n,hn=>by
  have:hasB (0,0) n=false:=by
   unfold hasB
   by_cases e:n<64
   ·rw [decide_eq_true e,ct]; simp
   ·rw [decide_eq_false e,cf]; simp
  rw [decide_eq_false (Nat.not_lt_zero n)]
  exact this
 | m+1,hm,n,hn=>by
  have ih:=bt_from p m (by omega) n hn
  unfold btFrom
  by_cases e:m=n
  ·subst e
   rw [decide_eq_true (Nat.lt_succ_self m)]
   cases hp:p m with
   | false=>rw [cf,ih,hp]; simp
   | true=>rw [ct,has_with _ _ _ (by omega) hn,decide_eq_true rfl]; simp
  ·have hlt:decide (n<m+1)=decide (n<m):=decide_eq_decide.2 (by omega)
   rw [hlt]
   cases hp:p m with
   | false=>rw [cf]; exact ih
   | true=>rw [ct,has_with _ _ _ (by omega) hn,decide_eq_false e,Bool.or_false]; exact ih
open Classical in
noncomputable def pathF(L:List Ins) :Fl:=(List.range L.length).map fun k=>if PathB L (-1) k then some (btFrom (fun n=> !decide (PathB L (n:Int) k)) 128) else none
theorem sets_neg(hok:Okc r a i L){j:Nat}(hj:j<L.length)(hw:writesB L[j]=true) :0≤L[j].a∧L[j].a<128:=by
 have:=regs_in (hok.may L[j] (List.getElem_mem hj)) L[j].a (by unfold regsL cond1; rw [hw]; exact List.mem_append_right _ (by rw [ct]; simp))
 have:=hok.r1
 omega
open Classical in
theorem pathF_at{k:Nat}(hk:k<L.length)(h:PathB L (-1) k) :(pathF L)[k]? =some (some (btFrom (fun n=> !decide (PathB L (n:Int) k)) 128)):=by
 unfold pathF
 rw [List.getElem?_map,List.getElem?_range hk]
 show some (if PathB L (-1) k then _ else none)=_
 rw [if_pos h]
open Classical in
theorem pathF_of{k:Nat}{c:Bt}(h:(pathF L)[k]? =some (some c)) :k<L.length∧PathB L (-1) k∧c=btFrom (fun n=> !decide (PathB L (n:Int) k)) 128:=by
 unfold pathF at h
 rw [List.getElem?_map] at h
 obtain ⟨q,h1,h2⟩:=Option.map_eq_some_iff.1 h
 obtain ⟨hq,e⟩:=List.getElem?_eq_some_iff.1 h1
 rw [List.getElem_range] at e
 subst e
 rw [List.length_range] at hq
 by_cases hp:PathB L (-1) k
 ·rw [if_pos hp] at h2
  exact ⟨hq,hp,(Option.some.inj h2).symm⟩
 ·rw [if_neg hp] at h2
  cases h2
open Classical in
theorem pathF_closed(hok:Okc r a i L) :ClosedT L (pathF L) []:=by
 intro j hj b hb
 right
 obtain ⟨_,hp,rfl⟩:=pathF_of hb
 intro k hk
 obtain ⟨k0,k1⟩:=next_in hok (List.getElem?_eq_getElem hj) k hk
 have hkN:((k.toNat:Nat):Int)=k:=Int.toNat_of_nonneg k0
 have hpk:PathB L (-1) k.toNat:=PathB.step hj hp (fun hw=>by
  have:=sets_neg hok hj hw.1
  have:=hw.2
  omega) (by rw [hkN]; exact hk)
 refine ⟨_,pathF_at (by omega) hpk,fun n hn hx=> ?_⟩
 rw [bt_from _ 128 (Nat.le_refl _) n hn,decide_eq_true hn,Bool.true_and] at hx
 have hnp:¬PathB L (n:Int) k.toNat:=by simpa using hx
 unfold outB
 cases hw:writesB L[j] with
 | false=>
  rw [cf,bt_from _ 128 (Nat.le_refl _) n hn,decide_eq_true hn,Bool.true_and]
  have:¬PathB L (n:Int) j:=fun h=>hnp (PathB.step hj h (fun e=>by rw [hw] at e; cases e.1) (by rw [hkN]; exact hk))
  simpa using this
 | true=>
  obtain ⟨w0,w1⟩:=sets_neg hok hj hw
  rw [ct,has_with _ _ _ (by omega) hn,bt_from _ 128 (Nat.le_refl _) n hn,decide_eq_true hn,Bool.true_and]
  by_cases e:L[j].a=(n:Int)
  ·have:decide (L[j].a.toNat=n)=true:=decide_eq_true (by omega)
   rw [this,Bool.or_true]
  ·have:¬PathB L (n:Int) j:=fun h=>hnp (PathB.step hj h (fun e2=>e e2.2) (by rw [hkN]; exact hk))
   have h2:(!decide (PathB L (n:Int) j))=true:=by simpa using this
   rw [h2]
   rfl
theorem flow_path(hok:Okc r a i L)(hl:L.length≤400){F:Fl}(hF:FlowOf L F){k:Nat} :(∀b,F[k]? =some (some b)→PathB L (-1) k∧∀n:Nat,n<128→(¬PathB L (n:Int) k→hasB b n=true)):=by
 intro b hb
 have fl:=fine_of hok hl
 have h0:0<L.length:=Nat.pos_of_ne_zero hok.len0
 have hlow:=FlowOf.low fl hF (pathF_closed hok) ⟨_,pathF_at h0 .zero,fun n hn hx=>by
  rw [bt_from _ 128 (Nat.le_refl _) n hn,decide_eq_true hn,Bool.true_and] at hx
  have:¬PathB L (n:Int) 0:=by simpa using hx
  exact absurd PathB.zero this⟩
 obtain ⟨d,h1,h2⟩:=hlow k b hb
 obtain ⟨_,hp,rfl⟩:=pathF_of h1
 refine ⟨hp,fun n hn hnp=>h2 n hn ?_⟩
 rw [bt_from _ 128 (Nat.le_refl _) n hn,decide_eq_true hn,Bool.true_and]
 simpa using hnp
theorem path_flow(hok:Okc r a i L)(hl:L.length≤400){F:Fl}(hF:FlowOf L F){but:Int}{k:Nat}(h:PathB L but k) :∃b,F[k]? =some (some b)∧∀n:Nat,n<128→but=(n:Int)→hasB b n=false:=by
 have fl:=fine_of hok hl
 have h0:0<L.length:=Nat.pos_of_ne_zero hok.len0
 obtain ⟨c1,c2,_⟩:=FlowOf.closed fl h0 hF
 have c3:=FlowOf.zero fl h0 hF
 induction h with
 | zero=>
  refine ⟨_,c3,fun n hn _=> ?_⟩
  unfold hasB
  by_cases e:n<64
  ·rw [decide_eq_true e,ct]; simp
  ·rw [decide_eq_false e,cf]; simp
 | step hi _ hs hk ih=>
  obtain ⟨b,h1,h2⟩:=ih
  rcases c2 _ hi b h1 with h3 | h3
  ·cases h3
  ·obtain ⟨c,h4,h5⟩:=h3 _ hk
   rw [Int.toNat_natCast] at h4
   refine ⟨c,h4,fun n hn e=> ?_⟩
   cases hx:hasB c n with
   | false=>rfl
   | true=>
    have h6:=h5 n hn hx
    unfold outB at h6
    have h7:=h2 n hn e
    revert h6
    cases hw:writesB _ with
    | false=>rw [cf,h7]; intro h6; cases h6
    | true=>
     obtain ⟨w0,w1⟩:=sets_neg hok hi hw
     rw [ct,has_with _ _ _ (by omega) hn,h7,Bool.false_or]
     intro h6
     have:=of_decide_eq_true h6
     exact absurd ⟨hw,by omega⟩ hs
theorem rch_reach(hok:Okc r a i L)(hl:L.length≤400){F:Fl}(hF:FlowOf L F) :(reachL L (-1)).map T.bool=rchL F:=by
 have fl:=fine_of hok hl
 have c1:=(FlowOf.closed fl (Nat.pos_of_ne_zero hok.len0) hF).1
 unfold rchL
 refine List.ext_getElem? fun k=> ?_
 rw [List.getElem?_map,List.getElem?_map]
 rcases Nat.lt_or_ge k L.length with hk | hk
 ·have h1:k<(reachL L (-1)).length:=by rw [rea_len]; exact hk
  have h2:k<F.length:=by rw [c1]; exact hk
  rw [List.getElem?_eq_getElem h1,List.getElem?_eq_getElem h2]
  have hi:=reach_iff hok (-1) k
  rw [List.getElem?_eq_getElem h1] at hi
  have hf:=flow_path hok hl hF (k:=k)
  rw [List.getElem?_eq_getElem h2] at hf
  show some (T.bool _)=some (T.bool _)
  congr 2
  cases ho:F[k] with
  | none=>
   cases hr:(reachL L (-1))[k] with
   | false=>rfl
   | true=>
    obtain ⟨b,hb,_⟩:=path_flow hok hl hF (hi.1 (by rw [hr]))
    rw [List.getElem?_eq_getElem h2,ho] at hb
    cases hb
  | some b=>
   have:=hi.2 (hf b (by rw [ho])).1
   exact Option.some.inj this
 ·rw [List.getElem?_eq_none (by rw [rea_len]; exact hk),List.getElem?_eq_none (by rw [c1]; exact hk)]
  rfl
theorem has_reach(hok:Okc r a i L)(hl:L.length≤400){F:Fl}(hF:FlowOf L F){k n:Nat}{b:Bt}(hb:F[k]? =some (some b))(hn:n<128) :(reachL L (n:Int))[k]? =some (!hasB b n):=by
 have fl:=fine_of hok hl
 have c1:=(FlowOf.closed fl (Nat.pos_of_ne_zero hok.len0) hF).1
 have hk:k<L.length:=by rw [←c1]; exact (List.getElem?_eq_some_iff.1 hb).1
 have h1:k<(reachL L (n:Int)).length:=by rw [rea_len]; exact hk
 have hi:=reach_iff hok (n:Int) k
 rw [List.getElem?_eq_getElem h1] at hi ⊢
 congr 1
 cases hr:(reachL L (n:Int))[k] with
 | true=>
  obtain ⟨c,hc,h2⟩:=path_flow hok hl hF (hi.1 (by rw [hr]))
  rw [hb] at hc
  cases hc
  rw [h2 n hn rfl]
  rfl
 | false=>
  have:¬PathB L (n:Int) k:=fun h=>by have:=hi.2 h; rw [hr] at this; cases this
  rw [(flow_path hok hl hF b hb).2 n hn this]
  rfl
end
end Go.Proofs.Ytgkdkjjohknfpaa.VM
end
section
namespace Go.Proofs.Ytgkdkjjohknfpaa.VM
set_option linter.unusedSectionVars false
set_option linter.unusedVariables false
open Go AM
abbrev bls(l:List Bool) :List T:=l.map T.bool
theorem bls_len(l:List Bool) :(bls l).length=l.length:=List.length_map _
theorem bls_at{l:List Bool}{i:Nat}{b:Bool}(h:l[i]? =some b) :(bls l)[i]? =some (.bool b):=by
 rw [List.getElem?_map,h]
 rfl
theorem bls_set(l:List Bool)(i:Nat)(b:Bool) :(bls l).set i (.bool b)=bls (l.set i b):=List.map_set.symm
theorem insU(x:Ins) :insT x= .agg [.int .i64 x.op, .int .i64 x.a, .int .i64 x.b, .int .i64 x.c, .int .i64 x.n]:=rfl
theorem insM_at{L:List Ins}{j:Nat}(h:j<L.length) :(L.map insT)[j]? =some (insT L[j]):=by
 rw [List.getElem?_map,List.getElem?_eq_getElem h]
 rfl
theorem nat64{j:Nat}(h:j<9223372036854775806) :IntKind.i64.wrap ((j:Int)+1)=((j+1:Nat):Int):=by rw [wrap64 (by omega) (by omega)]; simp
theorem r47_11(but A B:Int)(C:Bool)(D:List T)(E F:Int)(G:Bool)(ks:List Int)(K L M:Int)(N:Bool)(O:List T)(hks:ks.length≤10) :∀(m j:Nat) (out:List Bool),m+j=ks.length→(∀k∈ks.drop j,0≤k∧k<(out.length:Int))→
  L47_11 but A B C D E F G (ints ks) (ks.length:Int) (j:Int) K L M N O true (bls out)=L47_6 but A B C D E (IntKind.i64.wrap (F+1)) K L M N O true (bls (goR (ks.drop j) out))
 | 0,j,out,h,hk=>by
  have d:decide ((j:Int)<(ks.length:Int))=false:=decide_eq_false (by omega)
  rw [L47_11_eq,RL47_11,d,cf,List.drop_of_length_le (by omega)]
  rfl
 | m+1,j,out,h,hk=>by
  have d:decide ((j:Int)<(ks.length:Int))=true:=decide_eq_true (by omega)
  have n0:decide ((0:Int)≤(j:Int))=true:=decide_eq_true (by omega)
  have hlt:j<ks.length:=by omega
  rw [List.drop_eq_getElem_cons hlt] at hk ⊢
  obtain ⟨k0,k1⟩:=hk ks[j] (List.mem_cons_self ..)
  have n1:(decide ((0:Int)≤ks[j]) &&decide (ks[j]<((bls out).length:Int)))=true:=by rw [bls_len,decide_eq_true k0,decide_eq_true k1]; rfl
  rw [L47_11_eq,RL47_11,d,ct,needC_true n0,Int.toNat_natCast,getT_at (ints_at hlt),asI_int,needC_true n1,bTA,needC_t,setT_at _ (by rw [bls_len]; omega),bls_set,nat64 (by omega)]
  exact r47_11 but A B C D E F G ks K L M N O hks m (j+1) (out.set ks[j].toNat true) (by omega) (fun k hk2=>by rw [List.length_set]; exact hk k (List.mem_cons_of_mem _ hk2))
theorem r47_6{r a i:Int}{L:List Ins}(hok:Okc r a i L)(hl:L.length≤400)(but A B:Int)(C:Bool)(G H I:Int)(J:Bool)(K:List T) :∀(m j:Nat) (out:List Bool),m+j=L.length→out.length=L.length→
  L47_6 but A B C (L.map insT) (L.length:Int) (j:Int) G H I J K true (bls out)=L47_4 but A (IntKind.i64.wrap (B+1)) G H I J K true (bls ((List.range' j m).foldl (stepR L but) out))
 | 0,j,out,h,ho=>by
  have d:decide ((j:Int)<(L.length:Int))=false:=decide_eq_false (by omega)
  rw [L47_6_eq,RL47_6,d,cf]
  rfl
 | m+1,j,out,h,ho=>by
  have d:decide ((j:Int)<(L.length:Int))=true:=decide_eq_true (by omega)
  have n0:decide ((0:Int)≤(j:Int))=true:=decide_eq_true (by omega)
  have hlt:j<L.length:=by omega
  have hlo:j<out.length:=by omega
  have n1:(decide ((0:Int)≤(j:Int)) &&decide ((j:Int)<((bls out).length:Int)))=true:=by rw [bls_len,n0,decide_eq_true (by omega:(j:Int)<(out.length:Int))]; rfl
  have ho2:out[j]? =some out[j]:=List.getElem?_eq_getElem hlo
  have ih:=fun out' h'=>r47_6 hok hl but A B C G H I J K m (j+1) out' (by omega) h'
  have hlen:(stepR L but out j).length=L.length:=by rw [←(step_le L but out j).1]; exact ho
  have ihs:=ih _ hlen
  have hw:=writes61 L[j]
  have hn:=next51 L[j] (j:Int)
  have h11:=r47_11 but A B C (L.map insT) (L.length:Int) (j:Int) (!(nextL L[j] (j:Int)).isEmpty) (nextL L[j] (j:Int)) G H I J K (by have:=next_len L[j] (j:Int); omega) _ 0 out (Nat.add_zero _) (fun k hk=>by rw [List.drop_zero] at hk; rw [ho]; exact next_in hok (List.getElem?_eq_getElem hlt) k hk)
  rw [List.drop_zero,nat64 (by omega)] at h11
  have hs:stepR L but out j=bif out[j] then (bif setsB L[j] but then out else goR (nextL L[j] (j:Int)) out) else out:=by
   unfold stepR
   rw [List.getElem?_eq_getElem hlt,ho2]
   rfl
  rw [List.range'_succ,List.foldl_cons]
  rw [insU] at hw hn
  rw [L47_6_eq,RL47_6,d,ct,needC_true n0,Int.toNat_natCast,getT_at (insM_at hlt),insU,asA_agg,consT_cons,asI_int,consT_cons,asI_int,consT_cons,asI_int,consT_cons,asI_int,consT_cons,asI_int,endT_nil,hw,callK_some,asTup_tup,consV_cons,asT_t,asI_int,consV_cons,asT_t,asB_bool,endV_nil,endB_nil,needC_true n1,getT_at (bls_at ho2),asB_bool,nat64 (by omega)]
  rw [hs] at ihs ⊢
  cases hb:out[j] with
  | false=>
   rw [hb] at ihs
   rw [bNF,ct]
   exact ihs
  | true=>
   rw [hb,ct] at ihs
   rw [bNT,cf,ct]
   unfold setsB at ihs ⊢
   cases hwb:writesB L[j] with
   | false=>
    rw [hwb,bFA,cf] at ihs
    rw [cf,bFA,cf,hn,callK_some,asT_t,asL_list,endB_nil,ints_len]
    exact h11.trans ihs
   | true=>
    rw [hwb,bTA] at ihs
    rw [ct,ct,bTA]
    cases hd:decide (L[j].a=but) with
    | true=>
     rw [hd,ct] at ihs
     rw [ct,ct]
     exact ihs
    | false=>
     rw [hd,cf] at ihs
     rw [cf,cf,hn,callK_some,asT_t,asL_list,endB_nil,ints_len]
     exact h11.trans ihs
theorem r47_4{r a i:Int}{L:List Ins}(hok:Okc r a i L)(hl:L.length≤400)(but:Int)(G H I:Int)(J:Bool) :∀(m j:Nat) (out:List Bool),m+j=L.length→out.length=L.length→
  L47_4 but (L.length:Int) (j:Int) G H I J (L.map insT) true (bls out)=some (.t (.list 1 true (bls (iterR L but m out))),e0)
 | 0,j,out,h,ho=>by
  have d:decide ((j:Int)<(L.length:Int))=false:=decide_eq_false (by omega)
  rw [L47_4_eq,RL47_4,d,cf]
  rfl
 | m+1,j,out,h,ho=>by
  have d:decide ((j:Int)<(L.length:Int))=true:=decide_eq_true (by omega)
  have h6:=r47_6 hok hl but (L.length:Int) (j:Int) J G H I J (L.map insT) L.length 0 out (Nat.add_zero _) ho
  rw [←List.range_eq_range',nat64 (by omega)] at h6
  have hp:(passR L but out).length=L.length:=by rw [←(pass_le L but out).1]; exact ho
  rw [L47_4_eq,RL47_4,d,ct,List.length_map]
  exact h6.trans (r47_4 hok hl but G H I J m (j+1) _ (by omega) hp)
theorem reach47{r a i:Int}{L:List Ins}(hok:Okc r a i L)(hl:L.length≤400)(z:Bool)(but:Int) :vr 47 0 [.t (cdT r a i z L), .t (.int .i64 but)] e0=some (.t (.list 1 true (bls (reachL L but))),e0):=by
 have h0:=Nat.pos_of_ne_zero hok.len0
 have n1:(decide (0≤((L.map insT).length:Int)) &&decide (((L.map insT).length:Int)≤((L.map insT).length:Int)) &&decide (((L.map insT).length:Int)*(1+1)≤70368744177664))=true:=by
  rw [List.length_map,decide_eq_true (by omega:(0:Int)≤(L.length:Int)),decide_eq_true (Int.le_refl _),decide_eq_true (by omega:(L.length:Int)*(1+1)≤70368744177664)]
  rfl
 have e1:(((L.map insT).length:Int)).toNat=L.length:=by rw [List.length_map]; omega
 have e2:List.replicate L.length (T.bool false)=bls (List.replicate L.length false):=by unfold bls; rw [List.map_replicate]
 have n2:(decide (0≤0) &&decide ((0:Int)<((bls (List.replicate L.length false)).length:Int)))=true:=by
  rw [bls_len,List.length_replicate,decide_eq_true (by omega:(0:Int)<(L.length:Int))]; rfl
 have h4:=r47_4 hok hl but r a i z L.length 0 ((List.replicate L.length false).set 0 true) (Nat.add_zero _) (start_len L)
 have e0':((0:Int)).toNat=0:=rfl
 unfold cdT
 rw [eq47,R47,needC_true n1,e1,e2,needC_true n2,e0',setT_at _ (by rw [bls_len,List.length_replicate]; exact h0),bls_set,List.length_map]
 exact h4
theorem reach23(r a i:Int)(z:Bool)(L:List Ins)(hl:L.length≤400) :vr 23 0 [.t (cdT r a i z L)] e0=some (bif checkB r a i L then .tup [.t (.list 1 true (bls (reachL L (-1)))), .t (.int .i64 0)] else .tup [.t (.list 1 false []), .t (.int .i64 1)],e0):=by
 have h1:=check46 r a i z L (by omega)
 cases hc:checkB r a i L with
 | false=>
  rw [hc] at h1
  unfold cdT at h1 ⊢
  rw [eq23,R23,h1,callK_some]
  rfl
 | true=>
  have h2:=reach47 ((check_iff r a i L).1 hc) hl z (-1)
  rw [hc] at h1
  unfold cdT at h1 h2 ⊢
  rw [eq23,R23,h1,callK_some,h2,callK_some]
  rfl
theorem bls_reach{r a i:Int}{L:List Ins}(hok:Okc r a i L)(hl:L.length≤400){F:Fl}(hF:FlowOf L F) :bls (reachL L (-1))=rchL F:=rch_reach hok hl hF
/-! ### Set -/
def rl(P:Nat→Nat→Bool)(k:Nat) :Nat→List Int
 | 0=>[]
 | n+1=>rl P k n++(bif P k n then [(n:Int)] else [])
theorem rl_len(P:Nat→Nat→Bool)(k:Nat) :∀n,(rl P k n).length≤n
 | 0=>Nat.le_refl _
 | n+1=>by
  have:=rl_len P k n
  unfold rl
  rw [List.length_append]
  cases P k n with
  | false=>show _+0≤_; omega
  | true=>show _+1≤_; omega
def rowL(l:List Int) :RowV:=RowV.own (!l.isEmpty) (ints l)
def rowsF(n:Nat)(f:Nat→List Int) :List RowV:=(List.range n).map fun k=>rowL (f k)
theorem rowsF_at{n:Nat}{f:Nat→List Int}{k:Nat}(h:k<n) :(rowsF n f)[k]? =some (rowL (f k)):=by
 unfold rowsF
 rw [List.getElem?_map,List.getElem?_range h]
 rfl
theorem rowsF_len(n:Nat)(f:Nat→List Int) :(rowsF n f).length=n:=by unfold rowsF; rw [List.length_map,List.length_range]
theorem rowsF_set(n:Nat)(f:Nat→List Int)(j:Nat)(y:List Int) :(rowsF n f).set j (rowL y)=rowsF n (fun k=>if k=j then y else f k):=by
 refine List.ext_getElem? fun k=> ?_
 rw [List.getElem?_set,rowsF_len]
 rcases Nat.lt_or_ge k n with hk | hk
 ·rw [rowsF_at hk,rowsF_at hk]
  by_cases e:j=k
  ·subst e
   rw [if_pos rfl,if_pos hk,if_pos rfl]
  ·rw [if_neg e,if_neg (fun x=>e x.symm)]
 ·by_cases e:j=k
  ·subst e
   rw [if_pos rfl,if_neg (by omega),List.getElem?_eq_none (by rw [rowsF_len]; exact hk)]
  ·rw [if_neg e,List.getElem?_eq_none (by rw [rowsF_len]; exact hk),List.getElem?_eq_none (by rw [rowsF_len]; exact hk)]
theorem rowsF_congr{n:Nat}{f g:Nat→List Int}(h:∀k,k<n→f k=g k) :rowsF n f=rowsF n g:=by
 unfold rowsF
 exact List.map_congr_left fun k hk=>by rw [h k (List.mem_range.1 hk)]
theorem rowsF_trees(n:Nat)(f:Nat→List Int) :treesOf 1 (rowsF n f)=some ((List.range n).map fun k=>T.list 1 (!(f k).isEmpty) (ints (f k))):=by
 unfold rowsF
 generalize List.range n=l
 induction l with
 | nil=>rfl
 | cons k l ih=>
  show (treesOf 1 (l.map fun k=>rowL (f k))).map _=_
  rw [ih]
  rfl
theorem r24_10(az:Bool)(A B:List Bool)(nz:Bool)(n:Nat)(R:Int)(len:Nat)(r a i:Int)(z:Bool)(l:List T)(hA:A.length=len)(hB:B.length=len)(hb:len≤400)(hn:n≤1000) :∀(m j:Nat) (f:Nat→List Int),m+j=len→(∀k,j≤k→k<len→(f k).length≤n)→
  L24_10 az (bls A) (n:Int) nz (bls B) R (n:Int) (len:Int) (j:Int) r a i z l (rowsF len f)=
   L24_6 az (bls A) R ((n+1:Nat):Int) r a i z l (rowsF len fun k=>if j≤k then f k++(bif (A[k]?).getD false && !(B[k]?).getD false then [(n:Int)] else []) else f k)
 | 0,j,f,h,hf=>by
  have d:decide ((j:Int)<(len:Int))=false:=decide_eq_false (by omega)
  rw [L24_10_eq,RL24_10,d,cf,nat64 (by omega),rowsF_congr fun k hk=>(if_neg (by omega:¬j≤k)).symm]
 | m+1,j,f,h,hf=>by
  have d:decide ((j:Int)<(len:Int))=true:=decide_eq_true (by omega)
  have n0:decide ((0:Int)≤(j:Int))=true:=decide_eq_true (by omega)
  have hjA:A[j]? =some A[j]:=List.getElem?_eq_getElem (by omega)
  have hjB:B[j]? =some B[j]:=List.getElem?_eq_getElem (by omega)
  have hj:j<len:=by omega
  have n1:(decide ((0:Int)≤(j:Int)) &&decide ((j:Int)<((rowsF len f).length:Int)))=true:=by rw [rowsF_len,n0,decide_eq_true (by omega:(j:Int)<(len:Int))]; rfl
  have n2:(decide ((0:Int)≤(j:Int)) &&decide ((j:Int)<(((rowsF len f).set j .gone).length:Int)))=true:=by rw [List.length_set]; exact n1
  have n3:decide (j<((rowsF len f).set j .gone).length)=true:=decide_eq_true (by rw [List.length_set,rowsF_len]; exact hj)
  have ha:=app_ok (n:=(ints (f j)).length) (by rw [ints_len]; have:=hf j (Nat.le_refl _) hj; omega)
  have ih:=fun f' h'=>r24_10 az A B nz n R len r a i z l hA hB hb hn m (j+1) f' (by omega) h'
  have skip:(A[j] && !B[j])=false→L24_6 az (bls A) R ((n+1:Nat):Int) r a i z l (rowsF len fun k=>if j+1≤k then f k++(bif (A[k]?).getD false && !(B[k]?).getD false then [(n:Int)] else []) else f k)=L24_6 az (bls A) R ((n+1:Nat):Int) r a i z l (rowsF len fun k=>if j≤k then f k++(bif (A[k]?).getD false && !(B[k]?).getD false then [(n:Int)] else []) else f k):=by
   intro hs
   congr 1
   refine rowsF_congr fun k hk=> ?_
   by_cases e:j=k
   ·subst e
    rw [if_neg (by omega),if_pos (Nat.le_refl _),hjA,hjB,Option.getD_some,Option.getD_some,hs,cf,List.append_nil]
   ·by_cases e2:j≤k
    ·rw [if_pos e2,if_pos (by omega)]
    ·rw [if_neg e2,if_neg (by omega)]
  rw [L24_10_eq,RL24_10,d,ct,needC_true n0,Int.toNat_natCast,getT_at (bls_at hjA),asB_bool,nat64 (by omega)]
  cases hAj:A[j] with
  | false=>
   rw [cf,ih f (fun k h1 hk=>hf k (by omega) hk)]
   exact skip (by rw [hAj]; rfl)
  | true=>
   rw [ct,needC_true n0,getT_at (bls_at hjB),asB_bool]
   cases hBj:B[j] with
   | true=>
    rw [bNT,cf,ih f (fun k h1 hk=>hf k (by omega) hk)]
    exact skip (by rw [hAj,hBj]; rfl)
   | false=>
    have hne:(!(f j).isEmpty || true)=(!(f j++[(n:Int)]).isEmpty):=by cases f j <;>rfl
    have hrow:(rowsF len f)[j]? =some (RowV.own (!(f j).isEmpty) (ints (f j))):=rowsF_at hj
    have hy:RowV.own (!(f j++[(n:Int)]).isEmpty) (ints (f j++[(n:Int)]))=rowL (f j++[(n:Int)]):=rfl
    rw [bNF,ct,needC_true n1,rowC_at hrow,needC_true ha,needC_true n2,needC_true n3,List.set_set,ints_snoc,hne,hy,rowsF_set]
    rw [ih _ (fun k h1 hk=>by show (if k=j then _ else _:List Int).length≤n; rw [if_neg (by omega)]; exact hf k (by omega) hk)]
    congr 1
    refine rowsF_congr fun k hk=> ?_
    by_cases e:j=k
    ·subst e
     rw [if_neg (by omega),if_pos rfl,if_pos (Nat.le_refl _),hjA,hjB,Option.getD_some,Option.getD_some,hAj,hBj]
     rfl
    ·rw [if_neg (fun x=>e x.symm:¬k=j)]
     by_cases e2:j≤k
     ·rw [if_pos e2,if_pos (by omega)]
     ·rw [if_neg e2,if_neg (by omega)]
def ptR(L:List Ins)(k n:Nat) :Bool:=((reachL L (-1))[k]?).getD false && !((reachL L (n:Int))[k]?).getD false
theorem r24_6{r a i:Int}{L:List Ins}(hok:Okc r a i L)(hl:L.length≤400)(az z:Bool) :∀(m n:Nat),((m+n:Nat):Int)=r→
  L24_6 az (bls (reachL L (-1))) r (n:Int) r a i z (L.map insT) (rowsF L.length fun k=>rl (ptR L) k n)=
   some (.tup [.t (.list 1 true ((List.range L.length).map fun k=>T.list 1 (!(rl (ptR L) k r.toNat).isEmpty) (ints (rl (ptR L) k r.toNat)))), .t (.int .i64 0)],e0)
 | 0,n,h=>by
  have d:decide ((n:Int)<r)=false:=decide_eq_false (by omega)
  have e:r.toNat=n:=by omega
  rw [L24_6_eq,RL24_6,d,cf,e]
  unfold treesC
  rw [rowsF_trees]
 | m+1,n,h=>by
  have d:decide ((n:Int)<r)=true:=decide_eq_true (by omega)
  have hr:=hok.r1
  have h47:=reach47 hok hl z (n:Int)
  have h10:=r24_10 az (reachL L (-1)) (reachL L (n:Int)) true n r L.length r a i z (L.map insT) (rea_len _) (rea_len _) hl (by omega) L.length 0 (fun k=>rl (ptR L) k n) (Nat.add_zero _) (fun k _ _=>rl_len _ k n)
  have h6:=r24_6 hok hl az z m (n+1) (by omega)
  have e:(rowsF L.length fun k=>if 0≤k then rl (ptR L) k n++(bif ((reachL L (-1))[k]?).getD false && !((reachL L (n:Int))[k]?).getD false then [(n:Int)] else []) else rl (ptR L) k n)=rowsF L.length fun k=>rl (ptR L) k (n+1):=rowsF_congr fun k _=>if_pos (Nat.zero_le k)
  rw [e] at h10
  unfold cdT at h47
  rw [L24_6_eq,RL24_6,d,ct,h47,callK_some,asT_t,asL_list,endB_nil,List.length_map]
  exact h10.trans h6
theorem setR_snoc(b:Bt) :∀(m n:Nat),setR b n (m+1)=setR b n m++(bif hasB b (n+m) then [((n+m:Nat):Int)] else [])
 | 0,n=>by
  show (bif hasB b n then [(n:Int)] else [])++[]=[]++_
  rw [List.append_nil]
  rfl
 | m+1,n=>by
  show (bif hasB b n then [(n:Int)] else [])++setR b (n+1) (m+1)=((bif hasB b n then [(n:Int)] else [])++setR b (n+1) m)++_
  have e:n+1+m=n+(m+1):=by omega
  rw [setR_snoc b m (n+1),List.append_assoc,e]
theorem rl_set{r a i:Int}{L:List Ins}(hok:Okc r a i L)(hl:L.length≤400){F:Fl}(hF:FlowOf L F){k:Nat}{o:Option Bt}(ho:F[k]? =some o) :∀n,n≤128→rl (ptR L) k n=setO n o
 | 0,_=>by cases o <;>rfl
 | n+1,hn=>by
  have hr:=rch_reach hok hl hF
  have hk:(reachL L (-1))[k]? =some o.isSome:=by
   have h1:=rch_at ho
   rw [←hr,List.getElem?_map] at h1
   cases hq:(reachL L (-1))[k]? with
   | none=>rw [hq] at h1; cases h1
   | some b=>rw [hq] at h1; have:=T.bool.inj (Option.some.inj h1); rw [this]
  have ih:=rl_set hok hl hF ho n (by omega)
  unfold rl
  rw [ih]
  unfold ptR
  rw [hk,Option.getD_some]
  cases o with
  | none=>rfl
  | some b=>
   rw [has_reach hok hl hF ho (by omega:n<128),Option.getD_some,Option.isSome_some,bTA]
   show setR b 0 n++_=setR b 0 (n+1)
   rw [setR_snoc,Nat.zero_add]
   cases hasB b n <;>rfl
theorem set24(r a i:Int)(z:Bool)(L:List Ins)(hl:L.length≤400)(hc:checkB r a i L=true){F:Fl}(hF:FlowOf L F) :vr 24 0 [.t (cdT r a i z L)] e0=some (.tup [.t (.list 1 true (setsF r.toNat F)), .t (.int .i64 0)],e0):=by
 have h1:=reach23 r a i z L hl
 have hok:=(check_iff r a i L).1 hc
 have fl:=fine_of hok hl
 have c1:=(FlowOf.closed fl (Nat.pos_of_ne_zero hok.len0) hF).1
 have hr0:=hok.r0
 have hr1:=hok.r1
 have n1:(decide (0≤((L.map insT).length:Int)) &&decide (((L.map insT).length:Int)≤((L.map insT).length:Int)) &&decide (((L.map insT).length:Int)*(24+1)≤70368744177664))=true:=by
  rw [List.length_map,decide_eq_true (by omega:(0:Int)≤(L.length:Int)),decide_eq_true (Int.le_refl _),decide_eq_true (by omega:(L.length:Int)*(24+1)≤70368744177664)]
  rfl
 have e1:(((L.map insT).length:Int)).toNat=L.length:=by rw [List.length_map]; omega
 have e2:(List.replicate L.length (T.list 1 false [])).map rowOf=rowsF L.length fun k=>rl (ptR L) k 0:=by
  refine List.ext_getElem? fun k=> ?_
  rw [List.map_replicate,List.getElem?_replicate]
  rcases Nat.lt_or_ge k L.length with hk | hk
  ·rw [if_pos hk,rowsF_at hk]; rfl
  ·rw [if_neg (by omega),List.getElem?_eq_none (by rw [rowsF_len]; exact hk)]
 have h6:=r24_6 hok hl true z r.toNat 0 (by omega)
 have e3:(List.range L.length).map (fun k=>T.list 1 (!(rl (ptR L) k r.toNat).isEmpty) (ints (rl (ptR L) k r.toNat)))=setsF r.toNat F:=by
  unfold setsF
  refine List.ext_getElem? fun k=> ?_
  rw [List.getElem?_map,List.getElem?_map]
  rcases Nat.lt_or_ge k L.length with hk | hk
  ·have ho:F[k]? =some F[k]:=List.getElem?_eq_getElem (by omega)
   rw [List.getElem?_range hk,ho]
   show some (T.list 1 (!(rl (ptR L) k r.toNat).isEmpty) (ints (rl (ptR L) k r.toNat)))=some (T.list 1 (!(setO r.toNat F[k]).isEmpty) (ints (setO r.toNat F[k])))
   rw [rl_set hok hl hF ho r.toNat (by omega)]
  ·rw [List.getElem?_eq_none (by rw [List.length_range]; exact hk),List.getElem?_eq_none (by omega)]
   rfl
 rw [e3] at h6
 rw [hc] at h1
 unfold cdT at h1 ⊢
 have hz:(!decide ((0:Int)=0))=false:=rfl
 rw [eq24,R24,h1,callK_some,ct,asTup_tup,consV_cons,asT_t,asL_list,consV_cons,asT_t,asI_int,endV_nil,endB_nil,hz,cf,needC_true n1,e1,e2]
 exact h6
end Go.Proofs.Ytgkdkjjohknfpaa.VM
end
