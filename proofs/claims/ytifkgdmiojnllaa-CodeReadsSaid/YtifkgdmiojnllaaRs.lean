/- Merged: Rr2 Rr3 Rr4. Conditions: none. -/
import Derived.Test.YtifkgdmiojnllaaRr
set_option linter.all false
section
namespace Go.Proofs.Ytifkgdmiojnllaa.VM
set_option linter.unusedSectionVars false
set_option linter.unusedVariables false
open Go AM
theorem op66(s:ByteArray) :vr 66 0 [.t (.str s)] e0=some (.t (.int .i64 (opOf s.data.toList)),e0):=by
 have h2:∀(m j:Nat),m+j=13→L66_2 s (j:Int)=some (.t (.int .i64 (opIx (shL.drop j) j s.data.toList)),e0):=by
  intro m
  induction m with
  | zero=>
   intro j h
   have d:decide ((j:Int)<13)=false:=decide_eq_false (by omega)
   rw [L66_2_eq,RL66_2,d,cf,List.drop_of_length_le (by show 13≤j; omega)]
   rfl
  | succ m ih=>
   intro j h
   have d:decide ((j:Int)<13)=true:=decide_eq_true (by omega)
   have hlt:j<shL.length:=by show j<13; omega
   have hs:shOf (j:Int)=shL[j]:=by
    unfold shOf isOp
    rw [decide_eq_true (by omega:(0:Int)≤(j:Int)),decide_eq_true (by omega:(j:Int)<13),bTA,ct,Int.toNat_natCast,List.getElem?_eq_getElem hlt]
    rfl
   have he:decide ((⟨⟨(shL[j]).w⟩⟩:ByteArray)=s)=decide ((shL[j]).w=s.data.toList):=by
    have:=str_eq s (shL[j]).w
    rw [decide_eq_decide] at this ⊢
    exact ⟨fun h=>(this.1 h.symm).symm,fun h=>(this.2 h.symm).symm⟩
   rw [L66_2_eq,RL66_2,d,ct,word63,callK_some,hs,asTup_tup,consV_cons,asT_t,asS_str,consV_cons,asT_t,asS_str,endV_nil,endB_nil,he,nat64 (by omega),List.drop_eq_getElem_cons hlt]
   unfold opIx
   cases decide ((shL[j]).w=s.data.toList) with
   | true=>rfl
   | false=>rw [cf,cf]; exact ih (j+1) (by omega)
 rw [eq66,R66]
 exact h2 13 0 rfl
def behX(c:UInt8)(k:Int)(l:List UInt8) :Int×Bool:=
 bif decide (k=1) then (match l with | d::t=>bif decide (d=c) then ((number t).getD 0,(number t).isSome) else (0,false) | []=>(0,false)) else (0,false)
theorem numV_eq(o:Option Int) :numV o= .tup [.t (.int .i64 (o.getD 0)), .t (.bool o.isSome)]:=by cases o <;>rfl
theorem behind67(s:ByteArray)(k v:Int)(c:UInt8)(h1:k=1→s.data.toList ≠[]) :vr 67 0 [.t (tokT s k v), .t (.str ⟨#[c]⟩)] e0=some (.tup [.t (.int .i64 (behX c k s.data.toList).1), .t (.bool (behX c k s.data.toList).2)],e0):=by
 unfold tokT behX
 rw [eq67,R67]
 cases hk:decide (k=1) with
 | false=>rfl
 | true=>
  rw [bNT,cf,ct]
  have hne:=h1 (of_decide_eq_true hk)
  cases hs:s.data.toList with
  | nil=>exact absurd hs hne
  | cons d t=>
   have hz:s.size=t.length+1:=by rw [←size_list,hs]; rfl
   have hs1:∀K:ByteArray→Option Res,subS s (some 1) none K=K ⟨⟨t⟩⟩:=by
    intro K
    have:=sub_drop (R:=Res) s (pos:=1) (by omega) K
    rw [hs] at this
    exact this
   have hs0:∀K:ByteArray→Option Res,subS s none (some 1) K=K ⟨⟨[d]⟩⟩:=by
    intro K
    unfold subS
    simp only [Option.getD_none,Option.getD_some]
    rw [decide_eq_true (by omega:(0:Int)≤0),decide_eq_true (by omega:(0:Int)≤1),decide_eq_true (by omega:(1:Int)≤(s.size:Int)),bTA,bTA,needC_t,ext_list,hs]
    rfl
   have he:decide ((⟨⟨[d]⟩⟩:ByteArray)=⟨#[c]⟩)=decide (d=c):=decide_eq_decide.2 ⟨fun h=>by cases h; rfl,fun h=>by rw [h]⟩
   rw [hs0,he]
   dsimp only
   cases decide (d=c) with
   | false=>rfl
   | true=>
    have hn:=number16 ⟨⟨t⟩⟩
    rw [numV_eq] at hn
    rw [bNT,cf,ct,hs1,hn,callK_some]
    rfl
def stpX(k:Int)(l:List T)(n:Int) :Option (Int×Int×List T):=
 if k=0 then some (0,n,l) else match l with
 | []=>none
 | x::r=>
  if k=1∨k=2 then (bif (behX 114 (tkK x) (tkS x).data.toList).2 then some ((behX 114 (tkK x) (tkS x).data.toList).1,n,r) else none)
  else if k=3 then (bif (behX 97 (tkK x) (tkS x).data.toList).2 then some ((behX 97 (tkK x) (tkS x).data.toList).1,n,r) else none)
  else if k=4 then (bif decide (tkK x=2) then some (tkN x,n,r) else none)
  else (bif decide (tkK x=3) &&(decide (tkS x=⟨#[45]⟩) &&decide (r.length=1)) then (match r with
    | y::r2=>bif decide (tkK y=2) && !decide (tkN y=0) then some (0,IntKind.i64.wrap (0 - tkN y),r2) else none
    | []=>none)
   else bif decide (tkK x=2) then some (0,tkN x,r) else none)
def refF :List Int→Int→List T→Option (List Int×Int×List T)
 | [],n,l=>some ([],n,l)
 | k::ks,n,l=>match stpX k l n with
  | some x=>(refF ks x.2.1 x.2.2).map fun y=>(x.1::y.1,y.2)
  | none=>none
def lc(k:Int) :UInt8:=if k=1 then 119 else if k=2 then 114 else if k=3 then 97 else if k=4 then 112 else 110
theorem real_word{s:ByteArray}{k v:Int}(h:(k=4∧s=ByteArray.empty∧v=0)∨tok s.data.toList=some (k,v)) :k=1→s.data.toList ≠[]:=by
 intro h1 h2
 subst h1
 rcases h with ⟨h,_⟩ | h
 ·exact absurd h (by decide)
 ·rw [h2] at h
  have e:tok []=none:=rfl
  rw [e] at h
  cases h
abbrev fldT(l:List Int) :List T:=l.map (.int .i64 ·)
section
variable (z:Bool) (ks:List UInt8) (q0 q1 q2 q3 q4 op:Int)
theorem j34_27(l:List T)(x:T)(ok:Bool)(L j:Nat)(hj:j≤3)(n:Int)(F:List T) :
  J34_27 z (x::l) ⟨⟨ks⟩⟩ ok (L:Int) (j:Int) q0 q1 q2 q3 q4 op 0 0 0 n true F=bif ok then L34_8 z l ⟨⟨ks⟩⟩ (L:Int) ((j+1:Nat):Int) q0 q1 q2 q3 q4 op 0 0 0 n true F else some (.tup [.t (insT ⟨op,0,0,0,n⟩), .t (.bool false)],e0):=by
 rw [J34_27_eq,RJ34_27]
 cases ok with
 | false=>rfl
 | true=>rw [bNT,cf,cutL_1,nat64 (by omega),ct]
theorem step34(k:Int)(hk:k=1∨k=2∨k=3∨k=4∨k=5)(l:List T)(hl:∀y∈l,Real y)(L j:Nat)(hjL:j<L)(hL:ks.length=L)(h3:L≤3)(hc:ks[j]? =some (lc k))(n:Int)(F:List Int)(hF:F.length=3)(hFj:F[j]? =some 0) :
  match stpX k l n with
  | some x=>L34_8 z l ⟨⟨ks⟩⟩ (L:Int) (j:Int) q0 q1 q2 q3 q4 op 0 0 0 n true (fldT F)=L34_8 z x.2.2 ⟨⟨ks⟩⟩ (L:Int) ((j+1:Nat):Int) q0 q1 q2 q3 q4 op 0 0 0 x.2.1 true (fldT (F.set j x.1))
  | none=>∃y,L34_8 z l ⟨⟨ks⟩⟩ (L:Int) (j:Int) q0 q1 q2 q3 q4 op 0 0 0 n true (fldT F)=some (.tup [.t (insT y), .t (.bool false)],e0):=by
 have d:decide ((j:Int)<(L:Int))=true:=decide_eq_true (by omega)
 have hsz:((⟨⟨ks⟩⟩:ByteArray).size:Int)=(L:Int):=by rw [bytes_size,hL]
 have nb:(decide ((0:Int)≤(j:Int)) &&decide ((j:Int)<((⟨⟨ks⟩⟩:ByteArray).size:Int)))=true:=by rw [hsz,d,decide_eq_true (by omega:(0:Int)≤(j:Int))]; rfl
 have nF:(decide ((0:Int)≤(j:Int)) &&decide ((j:Int)<((fldT F).length:Int)))=true:=by rw [List.length_map,hF,decide_eq_true (by omega:(0:Int)≤(j:Int)),decide_eq_true (by omega:(j:Int)<((3:Nat):Int))]; rfl
 have nF2:j<(fldT F).length:=by rw [List.length_map,hF]; omega
 have n00:∀K:Unit→Option Res,needC (decide (0≤0)) K=K ():=fun K=>rfl
 have nTT:∀K:Unit→Option Res,needC (true &&true) K=K ():=fun K=>rfl
 have hset:∀v:Int,(fldT F).set j (T.int .i64 v)=fldT (F.set j v):=fun v=>List.map_set.symm
 have hs0:F.set j 0=F:=by
  refine List.ext_getElem? fun q=> ?_
  rw [List.getElem?_set]
  by_cases e:j=q
  ·rw [if_pos e,if_pos (by omega),←e,hFj]
  ·rw [if_neg e]
 have hb:(⟨⟨ks⟩⟩:ByteArray)[j]! =lc k:=by
  have hjk:j<ks.length:=by omega
  rw [bytes_at hjk]
  rw [List.getElem?_eq_getElem hjk] at hc
  exact Option.some.inj hc
 have hj2:((j:Int)).toNat=j:=Int.toNat_natCast j
 cases l with
 | nil=>
  have e:stpX k [] n=none:=by unfold stpX; rw [if_neg (by omega)]
  rw [e]
  refine ⟨⟨op,0,0,0,n⟩, ?_⟩
  rw [L34_8_eq,RL34_8,d,ct]
  rfl
 | cons x r=>
  obtain ⟨s,kk,v,rfl,hx⟩:=hl x (List.mem_cons_self ..)
  have hxw:=real_word hx
  have hg:∀K:T→Option Res,getT (tokT s kk v::r) ((0:Int)).toNat K=K (tokT s kk v):=fun K=>rfl
  have ht:∀K:Int→ByteArray→Int→Option Res,(asA (tokT s kk v) fun a=>consT a fun b c=>asI .i64 b fun a=>consT c fun b d=>asS b fun c=>consT d fun b f=>asI .i64 b fun d=>endT f <| K a c d)=K kk s v:=fun K=>by
   unfold tokT
   rw [asA_agg,consT_cons,asI_int,consT_cons,asS_str,consT_cons,asI_int,endT_nil]
  have hlen:decide ((((tokT s kk v::r).length:Nat):Int)=0)=false:=decide_eq_false (by rw [List.length_cons]; omega)
  have hj:∀ok F' n',J34_27 z (tokT s kk v::r) ⟨⟨ks⟩⟩ ok (L:Int) (j:Int) q0 q1 q2 q3 q4 op 0 0 0 n' true F'=bif ok then L34_8 z r ⟨⟨ks⟩⟩ (L:Int) ((j+1:Nat):Int) q0 q1 q2 q3 q4 op 0 0 0 n' true F' else some (.tup [.t (insT ⟨op,0,0,0,n'⟩), .t (.bool false)],e0):=fun ok F' n'=>j34_27 z ks q0 q1 q2 q3 q4 op r _ ok L j (by omega) n' F'
  have beh:∀(c:UInt8) (K:V→Bs→Option Res),callK (vr 67 0 [.t (.agg [.int .i64 kk, .str s, .int .i64 v]), .t (.str ⟨#[c]⟩)] e0) K=K (.tup [.t (.int .i64 (behX c kk s.data.toList).1), .t (.bool (behX c kk s.data.toList).2)]) []:=fun c K=>by
   have:=behind67 s kk v c hxw
   unfold tokT at this
   rw [this,callK_some]
  have hA:=L34_8_eq z (tokT s kk v::r) ⟨⟨ks⟩⟩ (L:Int) (j:Int) q0 q1 q2 q3 q4 op 0 0 0 n true (fldT F)
  rw [RL34_8,d,ct,hlen,cf,n00,hg,ht,needC_true nb,hj2,hb] at hA
  rcases hk with rfl | rfl | rfl | rfl | rfl
  ·have c1:decide (((lc 1).toNat:Int)=119)=true:=rfl
   rw [c1,ct,n00,hg,ht,beh,asTup_tup,consV_cons,asT_t,asI_int,consV_cons,asT_t,asB_bool,endV_nil,endB_nil,needC_true nF,nTT,setT_at _ nF2,hset,hj] at hA
   rw [hA]
   unfold stpX
   rw [if_neg (by decide)]
   dsimp only
   rw [if_pos (.inl rfl)]
   show match (bif (behX 114 kk s.data.toList).2 then some ((behX 114 kk s.data.toList).1,n,r) else none:Option (Int×Int×List T)) with | some x=>_ | none=>_
   cases (behX 114 kk s.data.toList).2 with
   | true=>rfl
   | false=>exact ⟨_,rfl⟩
  ·have c1:decide (((lc 2).toNat:Int)=119)=false:=rfl
   have c2:decide (((lc 2).toNat:Int)=114)=true:=rfl
   rw [c1,cf,c2,ct,n00,hg,ht,beh,asTup_tup,consV_cons,asT_t,asI_int,consV_cons,asT_t,asB_bool,endV_nil,endB_nil,needC_true nF,nTT,setT_at _ nF2,hset,hj] at hA
   rw [hA]
   unfold stpX
   rw [if_neg (by decide)]
   dsimp only
   rw [if_pos (.inr rfl)]
   show match (bif (behX 114 kk s.data.toList).2 then some ((behX 114 kk s.data.toList).1,n,r) else none:Option (Int×Int×List T)) with | some x=>_ | none=>_
   cases (behX 114 kk s.data.toList).2 with
   | true=>rfl
   | false=>exact ⟨_,rfl⟩
  ·have c1:decide (((lc 3).toNat:Int)=119)=false:=rfl
   have c2:decide (((lc 3).toNat:Int)=114)=false:=rfl
   have c3:decide (((lc 3).toNat:Int)=97)=true:=rfl
   rw [c1,cf,c2,cf,c3,ct,n00,hg,ht,beh,asTup_tup,consV_cons,asT_t,asI_int,consV_cons,asT_t,asB_bool,endV_nil,endB_nil,needC_true nF,nTT,setT_at _ nF2,hset,hj] at hA
   rw [hA]
   unfold stpX
   rw [if_neg (by decide)]
   dsimp only
   rw [if_neg (by decide),if_pos rfl]
   show match (bif (behX 97 kk s.data.toList).2 then some ((behX 97 kk s.data.toList).1,n,r) else none:Option (Int×Int×List T)) with | some x=>_ | none=>_
   cases (behX 97 kk s.data.toList).2 with
   | true=>rfl
   | false=>exact ⟨_,rfl⟩
  ·have c1:decide (((lc 4).toNat:Int)=119)=false:=rfl
   have c2:decide (((lc 4).toNat:Int)=114)=false:=rfl
   have c3:decide (((lc 4).toNat:Int)=97)=false:=rfl
   have c4:decide (((lc 4).toNat:Int)=112)=true:=rfl
   rw [c1,cf,c2,cf,c3,cf,c4,ct,n00,hg,ht,needC_true nF,nTT,setT_at _ nF2,hset,hj] at hA
   rw [hA]
   unfold stpX
   rw [if_neg (by decide)]
   dsimp only
   rw [if_neg (by decide),if_neg (by decide),if_pos rfl]
   show match (bif decide (kk=2) then some (v,n,r) else none:Option (Int×Int×List T)) with | some x=>_ | none=>_
   cases decide (kk=2) with
   | true=>rfl
   | false=>exact ⟨_,rfl⟩
  ·have c1:decide (((lc 5).toNat:Int)=119)=false:=rfl
   have c2:decide (((lc 5).toNat:Int)=114)=false:=rfl
   have c3:decide (((lc 5).toNat:Int)=97)=false:=rfl
   have c4:decide (((lc 5).toNat:Int)=112)=false:=rfl
   have c5:decide (((lc 5).toNat:Int)=110)=true:=rfl
   rw [c1,cf,c2,cf,c3,cf,c4,cf,c5,ct,n00,hg,ht,n00,hg,ht] at hA
   have plain:∀X:Option Res,X=J34_27 z (tokT s kk v::r) ⟨⟨ks⟩⟩ (decide (kk=2)) (L:Int) (j:Int) q0 q1 q2 q3 q4 op 0 0 0 v true (fldT F)→
     match (bif decide (kk=2) then some (0,v,r) else none:Option (Int×Int×List T)) with
     | some x=>X=L34_8 z x.2.2 ⟨⟨ks⟩⟩ (L:Int) ((j+1:Nat):Int) q0 q1 q2 q3 q4 op 0 0 0 x.2.1 true (fldT (F.set j x.1))
     | none=>∃y,X=some (.tup [.t (insT y), .t (.bool false)],e0):=by
    intro X hX
    rw [hX,hj]
    cases decide (kk=2) with
    | true=>rw [ct,ct]; dsimp only; rw [hs0]
    | false=>exact ⟨_,rfl⟩
   unfold stpX
   rw [if_neg (by decide)]
   dsimp only
   rw [if_neg (by decide),if_neg (by decide),if_neg (by decide)]
   show match (bif decide (kk=3) &&(decide (s=⟨#[45]⟩) &&decide (r.length=1)) then _ else bif decide (kk=2) then some (0,v,r) else none:Option (Int×Int×List T)) with | some x=>_ | none=>_
   cases hk3:decide (kk=3) with
   | false=>
    rw [hk3,cf] at hA
    rw [bFA,cf]
    exact plain _ hA
   | true=>
    rw [hk3,ct,n00,hg,ht] at hA
    rw [bTA]
    cases hs:decide (s=⟨#[45]⟩) with
    | false=>
     rw [hs,cf] at hA
     rw [bFA,cf]
     exact plain _ hA
    | true=>
     rw [hs,ct] at hA
     rw [bTA]
     have hl2:decide ((((tokT s kk v::r).length:Nat):Int)=2)=decide (r.length=1):=decide_eq_decide.2 (by rw [List.length_cons]; omega)
     rw [hl2] at hA
     cases hr:decide (r.length=1) with
     | false=>
      rw [hr,cf] at hA
      rw [cf]
      exact plain _ hA
     | true=>
      rw [hr,ct,cutL_1] at hA
      rw [ct]
      cases r with
      | nil=>cases hr
      | cons y r2=>
       obtain ⟨s2,k2,v2,rfl,_⟩:=hl y (List.mem_cons_of_mem _ (List.mem_cons_self ..))
       have hg2:∀K:T→Option Res,getT (tokT s2 k2 v2::r2) ((0:Int)).toNat K=K (tokT s2 k2 v2):=fun K=>rfl
       have ht2:∀K:Int→ByteArray→Int→Option Res,(asA (tokT s2 k2 v2) fun a=>consT a fun b c=>asI .i64 b fun a=>consT c fun b d=>asS b fun c=>consT d fun b f=>asI .i64 b fun d=>endT f <| K a c d)=K k2 s2 v2:=fun K=>by
        unfold tokT
        rw [asA_agg,consT_cons,asI_int,consT_cons,asS_str,consT_cons,asI_int,endT_nil]
       have hjj:∀ok F' n',J34_27 z (tokT s2 k2 v2::r2) ⟨⟨ks⟩⟩ ok (L:Int) (j:Int) q0 q1 q2 q3 q4 op 0 0 0 n' true F'=bif ok then L34_8 z r2 ⟨⟨ks⟩⟩ (L:Int) ((j+1:Nat):Int) q0 q1 q2 q3 q4 op 0 0 0 n' true F' else some (.tup [.t (insT ⟨op,0,0,0,n'⟩), .t (.bool false)],e0):=fun ok F' n'=>j34_27 z ks q0 q1 q2 q3 q4 op r2 _ ok L j (by omega) n' F'
       rw [n00,hg2,ht2,n00,hg2,ht2] at hA
       show match (bif decide (k2=2) && !decide (v2=0) then some (0,IntKind.i64.wrap (0 - v2),r2) else none:Option (Int×Int×List T)) with | some x=>_ | none=>_
       cases hk2:decide (k2=2) with
       | false=>
        rw [hk2,cf,hjj,cf] at hA
        exact ⟨_,hA⟩
       | true=>
        rw [hk2,ct,n00,hg2,ht2,hjj] at hA
        rw [bTA]
        cases hv: !decide (v2=0) with
        | false=>
         rw [hv,cf] at hA
         exact ⟨_,hA⟩
        | true=>
         rw [hv,ct] at hA
         rw [ct]
         dsimp only
         rw [hs0]
         exact hA
end
end Go.Proofs.Ytifkgdmiojnllaa.VM
end
section
namespace Go.Proofs.Ytifkgdmiojnllaa.VM
set_option linter.unusedSectionVars false
set_option linter.unusedVariables false
open Go AM
theorem stpX_mem{k n:Int}{l:List T}{x:Int×Int×List T}(h:stpX k l n=some x) :∀y∈x.2.2,y∈l:=by
 unfold stpX at h
 split at h
 ·cases h; exact fun y hy=>hy
 ·cases l with
  | nil=>cases h
  | cons a r=>
   dsimp only at h
   have tl:∀y∈r,y∈a::r:=fun y hy=>List.mem_cons_of_mem _ hy
   split at h
   ·cases hb:(behX 114 (tkK a) (tkS a).data.toList).2 <;>rw [hb] at h
    ·cases h
    ·cases h; exact tl
   ·split at h
    ·cases hb:(behX 97 (tkK a) (tkS a).data.toList).2 <;>rw [hb] at h
     ·cases h
     ·cases h; exact tl
    ·split at h
     ·cases hb:decide (tkK a=2) <;>rw [hb] at h
      ·cases h
      ·cases h; exact tl
     ·cases hb:decide (tkK a=3) &&(decide (tkS a=⟨#[45]⟩) &&decide (r.length=1)) <;>rw [hb] at h
      ·rw [cf] at h
       cases hb2:decide (tkK a=2) <;>rw [hb2] at h
       ·cases h
       ·cases h; exact tl
      ·rw [ct] at h
       cases r with
       | nil=>cases h
       | cons y r2=>
        dsimp only at h
        cases hb2:decide (tkK y=2) && !decide (tkN y=0) <;>rw [hb2] at h
        ·cases h
        ·cases h; exact fun q hq=>List.mem_cons_of_mem _ (List.mem_cons_of_mem _ hq)
def insG(op n:Int)(G:List Int) :Ins:=⟨op,(G[0]?).getD 0,(G[1]?).getD 0,(G[2]?).getD 0,n⟩
theorem len_dec{l:List T} :decide ((l.length:Int)=0)=l.isEmpty:=by
 cases l with
 | nil=>rfl
 | cons x l=>exact decide_eq_false (by rw [List.length_cons]; omega)
theorem walk34(z:Bool)(ks:List UInt8)(q0 q1 q2 q3 q4 op:Int)(L:Nat)(hL:ks.length=L)(h3:L≤3) :∀(rem:List Int) (l:List T) (pre:List Int) (n:Int),(∀k∈rem,k=1∨k=2∨k=3∨k=4∨k=5)→(∀y∈l,Real y)→pre.length+rem.length=L→ks.drop pre.length=rem.map lc→
  match refF rem n l with
  | some x=>L34_8 z l ⟨⟨ks⟩⟩ (L:Int) (pre.length:Int) q0 q1 q2 q3 q4 op 0 0 0 n true (fldT (pre++List.replicate (3 - pre.length) 0))=some (.tup [.t (insT (insG op x.2.1 (pre++x.1++List.replicate (3 - L) 0))), .t (.bool x.2.2.isEmpty)],e0)
  | none=>∃y,L34_8 z l ⟨⟨ks⟩⟩ (L:Int) (pre.length:Int) q0 q1 q2 q3 q4 op 0 0 0 n true (fldT (pre++List.replicate (3 - pre.length) 0))=some (.tup [.t (insT y), .t (.bool false)],e0)
 | [],l,pre,n,hk,hl,hp,hd=>by
  have hp:pre.length=L:=by simpa using hp
  have d:decide ((pre.length:Int)<(L:Int))=false:=decide_eq_false (by omega)
  have e:(pre++List.replicate (3 - pre.length) 0).length=3:=by rw [List.length_append,List.length_replicate]; omega
  show L34_8 z l ⟨⟨ks⟩⟩ (L:Int) (pre.length:Int) q0 q1 q2 q3 q4 op 0 0 0 n true (fldT (pre++List.replicate (3 - pre.length) 0))=some (.tup [.t (insT (insG op n (pre++[]++List.replicate (3 - L) 0))), .t (.bool l.isEmpty)],e0)
  rw [List.append_nil,←hp]
  rw [←hp] at d
  generalize pre++List.replicate (3 - pre.length) 0=F at e ⊢
  match F,e with
  | [a,b,c],_=>
   rw [L34_8_eq,RL34_8,d,cf,len_dec]
   rfl
 | k::rem,l,pre,n,hk,hl,hp,hd=>by
  have hp':pre.length+(rem.length+1)=L:=hp
  have hlt:pre.length<ks.length:=by omega
  rw [List.drop_eq_getElem_cons hlt,List.map_cons] at hd
  obtain ⟨hd1,hd2⟩:=List.cons.inj hd
  have hs:=step34 z ks q0 q1 q2 q3 q4 op k (hk k (List.mem_cons_self ..)) l hl L pre.length (by omega) hL h3 (by rw [List.getElem?_eq_getElem hlt,hd1]) n (pre++List.replicate (3 - pre.length) 0) (by rw [List.length_append,List.length_replicate]; omega) (by rw [List.getElem?_append_right (Nat.le_refl _),Nat.sub_self,List.getElem?_replicate,if_pos (by omega)])
  unfold refF
  cases hx:stpX k l n with
  | none=>
   rw [hx] at hs
   exact hs
  | some x=>
   rw [hx] at hs
   dsimp only at hs ⊢
   have hset:(pre++List.replicate (3 - pre.length) 0).set pre.length x.1=(pre++[x.1])++List.replicate (3 - (pre++[x.1]).length) 0:=by
    have e3:3 - pre.length=(3 - (pre.length+1))+1:=by omega
    have e4:(pre++[x.1]).length=pre.length+1:=by rw [List.length_append]; rfl
    rw [List.set_append_right _ _ (Nat.le_refl _),Nat.sub_self,e4,e3,List.replicate_succ,List.append_assoc]
    rfl
   have e4:(pre++[x.1]).length=pre.length+1:=by rw [List.length_append]; rfl
   have ih:=walk34 z ks q0 q1 q2 q3 q4 op L hL h3 rem x.2.2 (pre++[x.1]) x.2.1 (fun k hk2=>hk k (List.mem_cons_of_mem _ hk2)) (fun y hy=>hl y (stpX_mem hx y hy)) (by rw [e4]; omega) (by rw [e4]; exact hd2)
   rw [←hset,e4] at ih
   rw [hs]
   cases hr:refF rem x.2.1 x.2.2 with
   | none=>rw [hr] at ih; exact ih
   | some y=>
    rw [hr] at ih
    dsimp only [Option.map_some] at ih ⊢
    rw [ih,List.append_assoc pre]
    rfl
/-! ### the program's reading -/
def progF :List Int→Int→List T→Bool→List Int×Int×List T×Bool
 | [],n,l,b=>([],n,l,b)
 | k::ks,n,l,b=>((fldR k n l b).1::(progF ks (fldR k n l b).2.1 (fldR k n l b).2.2.1 (fldR k n l b).2.2.2).1,(progF ks (fldR k n l b).2.1 (fldR k n l b).2.2.1 (fldR k n l b).2.2.2).2)
theorem fld_bad(k n:Int)(l:List T) :(fldR k n l true).2.2.2=true:=by
 unfold fldR
 split
 ·rfl
 ·split
  ·rfl
  ·split
   ·rfl
   ·split
    ·show (signedR l true).2.2=true
     unfold signedR
     cases l with
     | nil=>rfl
     | cons x r=>
      dsimp only
      cases decide ((tkS x).data.toList=[45]) with
      | false=>rfl
      | true=>
       rw [bNT,cf]
       cases decide (tkN (takeR 2 (takeR 3 (x::r) true).2.1 (takeR 3 (x::r) true).2.2).1=0) <;>rfl
    ·rfl
theorem prog_bad :∀(ks:List Int) (n:Int) (l:List T),(progF ks n l true).2.2.2=true
 | [],_,_=>rfl
 | k::ks,n,l=>by
  show (progF ks _ _ (fldR k n l true).2.2.2).2.2.2=true
  rw [fld_bad]
  exact prog_bad ks _ _
theorem beh_eq(c:UInt8)(x:T)(r:List T)(n:Int)(hx:Real x) :
  match (bif (behX c (tkK x) (tkS x).data.toList).2 then some ((behX c (tkK x) (tkS x).data.toList).1,n,r) else none:Option (Int×Int×List T)) with
  | some y=>behindR c (x::r) false=(y.1,y.2.2,false)∧y.2.1=n
  | none=>(behindR c (x::r) false).2.2=true:=by
 obtain ⟨s,k,v,rfl,_⟩:=hx
 unfold behindR behX
 rw [takeR_cons]
 show match (bif (bif decide (k=1) then (match s.data.toList with | d::t=>bif decide (d=c) then ((number t).getD 0,(number t).isSome) else (0,false) | []=>(0,false)) else ((0:Int),false)).2 then _ else none:Option (Int×Int×List T)) with | some y=>_ | none=>_
 have hk:tkK (tokT s k v)=k:=rfl
 have hs:tkS (tokT s k v)=s:=rfl
 rw [hk]
 cases decide (k=1) with
 | false=>rfl
 | true=>
  simp only [ct,hs]
  cases s.data.toList with
  | nil=>rfl
  | cons d t=>
   dsimp only
   cases decide (d=c) with
   | false=>rfl
   | true=>
    rw [ct,ct]
    cases number t with
    | none=>rfl
    | some w=>exact ⟨rfl,rfl⟩
def stpB(c:UInt8)(l:List T)(n:Int) :Option (Int×Int×List T):=match l with | []=>none | x::r=>bif (behX c (tkK x) (tkS x).data.toList).2 then some ((behX c (tkK x) (tkS x).data.toList).1,n,r) else none
theorem stp_fld(k n:Int)(l:List T)(hk:k=0∨k=1∨k=2∨k=3∨k=4)(hl:∀y∈l,Real y) :
  match stpX k l n with
  | some x=>fldR k n l false=(x.1,x.2.1,x.2.2,false)
  | none=>(fldR k n l false).2.2.2=true:=by
 have beh:∀c:UInt8,match stpB c l n with
   | some x=>((behindR c l false).1,n,(behindR c l false).2.1,(behindR c l false).2.2)=(x.1,x.2.1,x.2.2,false)
   | none=>(behindR c l false).2.2=true:=by
  intro c
  cases l with
  | nil=>rfl
  | cons x r=>
   have hb:=beh_eq c x r n (hl x (List.mem_cons_self ..))
   unfold stpB
   dsimp only
   cases hq:(behX c (tkK x) (tkS x).data.toList).2 with
   | false=>rw [hq] at hb; exact hb
   | true=>
    rw [hq] at hb
    obtain ⟨h1,_⟩:=hb
    rw [ct]
    dsimp only
    rw [h1]
 rcases hk with rfl | rfl | rfl | rfl | rfl
 ·rfl
 ·have e:stpX 1 l n=stpB 114 l n:=by cases l <;>rfl
  have f:fldR 1 n l false=((behindR 114 l false).1,n,(behindR 114 l false).2.1,(behindR 114 l false).2.2):=rfl
  rw [e,f]
  exact beh 114
 ·have e:stpX 2 l n=stpB 114 l n:=by cases l <;>rfl
  have f:fldR 2 n l false=((behindR 114 l false).1,n,(behindR 114 l false).2.1,(behindR 114 l false).2.2):=rfl
  rw [e,f]
  exact beh 114
 ·have e:stpX 3 l n=stpB 97 l n:=by cases l <;>rfl
  have f:fldR 3 n l false=((behindR 97 l false).1,n,(behindR 97 l false).2.1,(behindR 97 l false).2.2):=rfl
  rw [e,f]
  exact beh 97
 ·have f:fldR 4 n l false=(tkN (takeR 2 l false).1,n,(takeR 2 l false).2.1,(takeR 2 l false).2.2):=rfl
  rw [f]
  cases l with
  | nil=>rfl
  | cons x r=>
   have e:stpX 4 (x::r) n=(bif decide (tkK x=2) then some (tkN x,n,r) else none):=rfl
   rw [e,takeR_cons]
   cases decide (tkK x=2) <;>rfl
theorem stp5(n:Int)(l:List T)(hl:∀y∈l,Real y) :
  (∀x,stpX 5 l n=some x→x.2.2=[]→signedR l false=(x.2.1,[],false)∧x.1=0)∧((signedR l false).2.2=false→(signedR l false).2.1=[]→∃x,stpX 5 l n=some x∧x.2.2=[]):=by
 cases l with
 | nil=>exact ⟨fun x h=>(by cases h),fun h=>by cases h⟩
 | cons x r=>
  obtain ⟨s,k,v,rfl,hx⟩:=hl x (List.mem_cons_self ..)
  have e:stpX 5 (tokT s k v::r) n=(bif decide (k=3) &&(decide (s=⟨#[45]⟩) &&decide (r.length=1)) then (match (generalizing:=false) r with
    | y::r2=>bif decide (tkK y=2) && !decide (tkN y=0) then some ((0:Int),IntKind.i64.wrap (0 - tkN y),r2) else none
    | []=>none)
   else bif decide (k=2) then some ((0:Int),v,r) else none):=rfl
  have hs:decide (s=⟨#[45]⟩)=decide (s.data.toList=[45]):=str_eq s [45]
  have g:signedR (tokT s k v::r) false=(bif !decide (s.data.toList=[45]) then (tkN (takeR 2 (tokT s k v::r) false).1,(takeR 2 (tokT s k v::r) false).2.1,(takeR 2 (tokT s k v::r) false).2.2) else
   (IntKind.i64.wrap (0 - tkN (takeR 2 (takeR 3 (tokT s k v::r) false).2.1 (takeR 3 (tokT s k v::r) false).2.2).1),(takeR 2 (takeR 3 (tokT s k v::r) false).2.1 (takeR 3 (tokT s k v::r) false).2.2).2.1,
    bif decide (tkN (takeR 2 (takeR 3 (tokT s k v::r) false).2.1 (takeR 3 (tokT s k v::r) false).2.2).1=0) then true else (takeR 2 (takeR 3 (tokT s k v::r) false).2.1 (takeR 3 (tokT s k v::r) false).2.2).2.2)):=rfl
  rw [e,g,hs]
  cases hq:decide (s.data.toList=[45]) with
  | false=>
   rw [bFA,bAF,cf,bNF,ct,takeR_cons]
   show (∀x,(bif decide (k=2) then some (0,v,r) else none:Option (Int×Int×List T))=some x→_)∧((bif decide (tkK (tokT s k v)=2) then (tokT s k v,r,false) else (tok0,tokT s k v::r,true)).2.2=false→_)
   have hk:tkK (tokT s k v)=k:=rfl
   rw [hk]
   cases decide (k=2) with
   | false=>exact ⟨fun x h=>(by cases h),fun h=>by cases h⟩
   | true=>
    rw [ct,ct]
    refine ⟨fun x h h2=> ?_,fun _ h2=>⟨_,rfl,h2⟩⟩
    cases h
    have h2:r=[]:=h2
    subst h2
    exact ⟨rfl,rfl⟩
  | true=>
   have hs2:s.data.toList=[45]:=of_decide_eq_true hq
   have hk:k=3:=by
    rcases hx with ⟨_,h2,_⟩ | h2
    ·rw [h2] at hs2; cases hs2
    ·rw [hs2] at h2
     have e:tok [45]=some (3,0):=rfl
     rw [e] at h2
     cases h2
     rfl
   subst hk
   have h3:takeR 3 (tokT s 3 v::r) false=(tokT s 3 v,r,false):=rfl
   have d3:decide ((3:Int)=3)=true:=rfl
   have d2:decide ((3:Int)=2)=false:=rfl
   rw [d3,d2,bTA,bTA,bNT,cf,h3]
   cases r with
   | nil=>exact ⟨fun x h=>(by cases h),fun h=>by revert h; show (bif decide (tkN tok0=0) then true else true)=false→_; intro h; cases h⟩
   | cons y r2=>
    cases r2 with
    | cons y2 r3=>
     have dl:decide ((y::y2::r3).length=1)=false:=decide_eq_false (by simp)
     rw [dl,cf,cf]
     refine ⟨fun x h=>(by cases h),fun h h2=> ?_⟩
     have h2:(takeR 2 (y::y2::r3) false).2.1=[]:=h2
     rw [takeR_cons] at h2
     cases hk2:decide (tkK y=2) with
     | false=>rw [hk2,cf] at h2; cases h2
     | true=>rw [hk2,ct] at h2; cases h2
    | nil=>
     have dl:decide ([y].length=1)=true:=rfl
     rw [dl,ct]
     by_cases hk2:tkK y=2
     ·have t2:takeR 2 [y] false=(y,[],false):=by rw [takeR_cons,decide_eq_true hk2,ct]
      simp only [t2,decide_eq_true hk2,bTA,cf]
      by_cases hv:tkN y=0
      ·simp only [decide_eq_true hv,bNT,cf,ct]
       exact ⟨fun x h=>(by cases h),fun h=>(by cases h)⟩
      ·simp only [decide_eq_false hv,bNF,cf,ct]
       refine ⟨fun x h h2=> ?_,fun _ _=>⟨_,rfl,rfl⟩⟩
       cases h
       exact ⟨rfl,rfl⟩
     ·have t2:takeR 2 [y] false=(tok0,[y],true):=by rw [takeR_cons,decide_eq_false hk2,cf]
      simp only [t2,decide_eq_false hk2,bFA,cf]
      refine ⟨fun x h=>(by cases h),fun h=> ?_⟩
      cases hd:decide (tkN tok0=0) with
      | true=>simp only [hd] at h; cases h
      | false=>simp only [hd] at h; cases h
theorem prog_zeros :∀(z:Nat) (n:Int) (l:List T) (b:Bool),progF (List.replicate z 0) n l b=(List.replicate z 0,n,l,b)
 | 0,_,_,_=>rfl
 | z+1,n,l,b=>by
  rw [List.replicate_succ]
  show ((0:Int)::(progF (List.replicate z 0) n l b).1,(progF (List.replicate z 0) n l b).2)=_
  rw [prog_zeros z n l b]
theorem ref_zeros :∀(z:Nat) (n:Int) (l:List T),refF (List.replicate z 0) n l=some (List.replicate z 0,n,l)
 | 0,_,_=>rfl
 | z+1,n,l=>by
  rw [List.replicate_succ]
  show (refF (List.replicate z 0) n l).map _=_
  rw [ref_zeros z n l]
  rfl
theorem ref_prog(t:List Int)(ht:t=[]∨∃z,t=5::List.replicate z 0) :∀(pre:List Int) (n:Int) (l:List T),(∀k∈pre,k=0∨k=1∨k=2∨k=3∨k=4)→(∀y∈l,Real y)→
  (∀x,refF (pre++t) n l=some x→x.2.2=[]→progF (pre++t) n l false=(x.1,x.2.1,[],false))∧((progF (pre++t) n l false).2.2.2=false→(progF (pre++t) n l false).2.2.1=[]→∃x,refF (pre++t) n l=some x∧x.2.2=[])
 | [],n,l,hp,hl=>by
  rw [List.nil_append]
  rcases ht with rfl | ⟨z,rfl⟩
  ·refine ⟨fun x h h2=> ?_,fun _ h2=>⟨_,rfl,h2⟩⟩
   cases h
   have h2:l=[]:=h2
   subst h2
   rfl
  ·obtain ⟨g1,g2⟩:=stp5 n l hl
   have e:∀n' l' b,progF (List.replicate z 0) n' l' b=(List.replicate z 0,n',l',b):=fun n' l' b=>prog_zeros z n' l' b
   have f:progF (5::List.replicate z 0) n l false=(0::List.replicate z 0,(signedR l false).1,(signedR l false).2.1,(signedR l false).2.2):=by
    show ((0:Int)::(progF (List.replicate z 0) (signedR l false).1 (signedR l false).2.1 (signedR l false).2.2).1,(progF (List.replicate z 0) (signedR l false).1 (signedR l false).2.1 (signedR l false).2.2).2)=_
    rw [e]
   rw [f]
   have hr:refF (5::List.replicate z 0) n l=(match stpX 5 l n with | some x=>some (x.1::List.replicate z 0,x.2) | none=>none):=by
    rw [refF]
    cases stpX 5 l n with
    | none=>rfl
    | some x=>dsimp only; rw [ref_zeros]; rfl
   rw [hr]
   refine ⟨fun x h h2=> ?_,fun h h2=> ?_⟩
   ·cases hx:stpX 5 l n with
    | none=>rw [hx] at h; cases h
    | some y=>
     rw [hx] at h
     cases h
     obtain ⟨a1,a2⟩:=g1 y hx h2
     rw [a1,a2]
   ·obtain ⟨x,hx,hx2⟩:=g2 h h2
    rw [hx]
    exact ⟨_,rfl,hx2⟩
 | k::pre,n,l,hp,hl=>by
  have hs:=stp_fld k n l (hp k (List.mem_cons_self ..)) hl
  have e:progF (k::pre++t) n l false=((fldR k n l false).1::(progF (pre++t) (fldR k n l false).2.1 (fldR k n l false).2.2.1 (fldR k n l false).2.2.2).1,(progF (pre++t) (fldR k n l false).2.1 (fldR k n l false).2.2.1 (fldR k n l false).2.2.2).2):=rfl
  have f:refF (k::pre++t) n l=(match stpX k l n with | some x=>(refF (pre++t) x.2.1 x.2.2).map fun y=>(x.1::y.1,y.2) | none=>none):=rfl
  rw [e,f]
  cases hx:stpX k l n with
  | none=>
   rw [hx] at hs
   have hs:(fldR k n l false).2.2.2=true:=hs
   refine ⟨fun x h=>(by cases h),fun h=> ?_⟩
   have:=prog_bad (pre++t) (fldR k n l false).2.1 (fldR k n l false).2.2.1
   rw [hs] at h
   rw [this] at h
   cases h
  | some x=>
   rw [hx] at hs
   have hs:fldR k n l false=(x.1,x.2.1,x.2.2,false):=hs
   obtain ⟨i1,i2⟩:=ref_prog t ht pre x.2.1 x.2.2 (fun k hk=>hp k (List.mem_cons_of_mem _ hk)) (fun y hy=>hl y (stpX_mem hx y hy))
   rw [hs]
   dsimp only
   refine ⟨fun y h h2=> ?_,fun h h2=> ?_⟩
   ·cases hr:refF (pre++t) x.2.1 x.2.2 with
    | none=>rw [hr] at h; cases h
    | some w=>
     rw [hr] at h
     cases h
     rw [i1 w hr h2]
   ·obtain ⟨w,hw,hw2⟩:=i2 h h2
    rw [hw]
    exact ⟨_,rfl,hw2⟩
theorem sh_rem(s:Sh)(h:s=sh0∨s∈shL) :∃rem:List Int,(∀k∈rem,k=1∨k=2∨k=3∨k=4∨k=5)∧[s.k0,s.k1,s.k2]=rem++List.replicate (3 - rem.length) 0∧kindsS s=rem.map lc∧rem.length≤3∧
  ∃pre t,[s.k0,s.k1,s.k2]=pre++t∧(t=[]∨∃z,t=5::List.replicate z 0)∧∀k∈pre,k=0∨k=1∨k=2∨k=3∨k=4:=by
 rcases h with rfl | h
 ·exact ⟨[],by simp,rfl,rfl,by decide,[0,0,0],[],rfl, .inl rfl,by simp⟩
 ·simp only [shL,List.mem_cons,List.not_mem_nil,or_false] at h
  rcases h with rfl | rfl | rfl | rfl | rfl | rfl | rfl | rfl | rfl | rfl | rfl | rfl | rfl
  ·exact ⟨[],by simp,rfl,rfl,by decide,[0,0,0],[],rfl, .inl rfl,by simp⟩
  ·exact ⟨[1,5],by simp,rfl,rfl,by decide,[1],[5,0],rfl, .inr ⟨1,rfl⟩,by simp⟩
  ·exact ⟨[1,2],by simp,rfl,rfl,by decide,[1,2,0],[],rfl, .inl rfl,by simp⟩
  ·exact ⟨[1,2,2],by simp,rfl,rfl,by decide,[1,2,2],[],rfl, .inl rfl,by simp⟩
  ·exact ⟨[1,2,2],by simp,rfl,rfl,by decide,[1,2,2],[],rfl, .inl rfl,by simp⟩
  ·exact ⟨[1,2,2],by simp,rfl,rfl,by decide,[1,2,2],[],rfl, .inl rfl,by simp⟩
  ·exact ⟨[1,3,2],by simp,rfl,rfl,by decide,[1,3,2],[],rfl, .inl rfl,by simp⟩
  ·exact ⟨[3,2,2],by simp,rfl,rfl,by decide,[3,2,2],[],rfl, .inl rfl,by simp⟩
  ·exact ⟨[1,3],by simp,rfl,rfl,by decide,[1,3,0],[],rfl, .inl rfl,by simp⟩
  ·exact ⟨[3,2],by simp,rfl,rfl,by decide,[3,2,0],[],rfl, .inl rfl,by simp⟩
  ·exact ⟨[4],by simp,rfl,rfl,by decide,[4,0,0],[],rfl, .inl rfl,by simp⟩
  ·exact ⟨[2,2,4],by simp,rfl,rfl,by decide,[2,2,4],[],rfl, .inl rfl,by simp⟩
  ·exact ⟨[2,2,4],by simp,rfl,rfl,by decide,[2,2,4],[],rfl, .inl rfl,by simp⟩
theorem ref_more :∀(rem:List Int) (z:Nat) (n:Int) (l:List T),refF (rem++List.replicate z 0) n l=(refF rem n l).map fun x=>(x.1++List.replicate z 0,x.2)
 | [],z,n,l=>by rw [List.nil_append,ref_zeros]; rfl
 | k::rem,z,n,l=>by
  show (match stpX k l n with | some x=>(refF (rem++List.replicate z 0) x.2.1 x.2.2).map fun (y:List Int×Int×List T)=>(x.1::y.1,y.2) | none=>none)=_
  rw [refF]
  cases stpX k l n with
  | none=>rfl
  | some x=>
   dsimp only
   rw [ref_more rem z x.2.1 x.2.2]
   cases refF rem x.2.1 x.2.2 <;>rfl
theorem insR_prog(l:List T)(b:Bool) :insR l b=(⟨opOf (tkS (takeR 1 l b).1).data.toList,(((progF [(shOf (opOf (tkS (takeR 1 l b).1).data.toList)).k0,(shOf (opOf (tkS (takeR 1 l b).1).data.toList)).k1,(shOf (opOf (tkS (takeR 1 l b).1).data.toList)).k2] 0 (takeR 1 l b).2.1 (bif isOp (opOf (tkS (takeR 1 l b).1).data.toList) then (takeR 1 l b).2.2 else true)).1)[0]?).getD 0,
  (((progF [(shOf (opOf (tkS (takeR 1 l b).1).data.toList)).k0,(shOf (opOf (tkS (takeR 1 l b).1).data.toList)).k1,(shOf (opOf (tkS (takeR 1 l b).1).data.toList)).k2] 0 (takeR 1 l b).2.1 (bif isOp (opOf (tkS (takeR 1 l b).1).data.toList) then (takeR 1 l b).2.2 else true)).1)[1]?).getD 0,
  (((progF [(shOf (opOf (tkS (takeR 1 l b).1).data.toList)).k0,(shOf (opOf (tkS (takeR 1 l b).1).data.toList)).k1,(shOf (opOf (tkS (takeR 1 l b).1).data.toList)).k2] 0 (takeR 1 l b).2.1 (bif isOp (opOf (tkS (takeR 1 l b).1).data.toList) then (takeR 1 l b).2.2 else true)).1)[2]?).getD 0,
  (progF [(shOf (opOf (tkS (takeR 1 l b).1).data.toList)).k0,(shOf (opOf (tkS (takeR 1 l b).1).data.toList)).k1,(shOf (opOf (tkS (takeR 1 l b).1).data.toList)).k2] 0 (takeR 1 l b).2.1 (bif isOp (opOf (tkS (takeR 1 l b).1).data.toList) then (takeR 1 l b).2.2 else true)).2.1⟩,
  (progF [(shOf (opOf (tkS (takeR 1 l b).1).data.toList)).k0,(shOf (opOf (tkS (takeR 1 l b).1).data.toList)).k1,(shOf (opOf (tkS (takeR 1 l b).1).data.toList)).k2] 0 (takeR 1 l b).2.1 (bif isOp (opOf (tkS (takeR 1 l b).1).data.toList) then (takeR 1 l b).2.2 else true)).2.2):=rfl
theorem ins34(z:Bool)(l:List T)(hl:∀y∈l,Real y) :∃y,vr 34 0 [.t (.list 3 z l)] e0=some (.tup [.t (insT y), .t (.bool (!((insR l false).2.2 || !(insR l false).2.1.isEmpty)))],e0)∧(((insR l false).2.2 || !(insR l false).2.1.isEmpty)=false→y=(insR l false).1):=by
 have bad:(insR l false).2.2=true→vr 34 0 [.t (.list 3 z l)] e0=some (.tup [.t (insT ⟨0,0,0,0,0⟩), .t (.bool false)],e0)→∃y,vr 34 0 [.t (.list 3 z l)] e0=some (.tup [.t (insT y), .t (.bool (!((insR l false).2.2 || !(insR l false).2.1.isEmpty)))],e0)∧(((insR l false).2.2 || !(insR l false).2.1.isEmpty)=false→y=(insR l false).1):=fun h h2=>⟨_,by rw [h,bTO]; exact h2,fun h3=>by rw [h,bTO] at h3; cases h3⟩
 have ipb:∀l',(bif isOp (opOf (tkS (takeR 1 l' false).1).data.toList) then (takeR 1 l' false).2.2 else true)=true→(insR l' false).2.2=true:=by
  intro l' h
  rw [insR_prog,h]
  exact prog_bad _ _ _
 have n00:∀K:Unit→Option Res,needC (decide (0≤0)) K=K ():=fun K=>rfl
 cases l with
 | nil=>
  refine bad (ipb [] rfl) ?_
  rw [eq34,R34]
  rfl
 | cons x r=>
  obtain ⟨s,k,v,rfl,hx⟩:=hl x (List.mem_cons_self ..)
  have hlen:decide ((((tokT s k v::r).length:Nat):Int)=0)=false:=decide_eq_false (by rw [List.length_cons]; omega)
  have hg:∀K:T→Option Res,getT (tokT s k v::r) ((0:Int)).toNat K=K (tokT s k v):=fun K=>rfl
  have ht:∀K:Int→ByteArray→Int→Option Res,(asA (tokT s k v) fun a=>consT a fun b c=>asI .i64 b fun a=>consT c fun b d=>asS b fun c=>consT d fun b f=>asI .i64 b fun d=>endT f <| K a c d)=K k s v:=fun K=>by
   unfold tokT
   rw [asA_agg,consT_cons,asI_int,consT_cons,asS_str,consT_cons,asI_int,endT_nil]
  have hA:=eq34 z (tokT s k v::r)
  rw [R34,hlen,cf,n00,hg,ht] at hA
  have htk:takeR 1 (tokT s k v::r) false=bif decide (k=1) then (tokT s k v,r,false) else (tok0,tokT s k v::r,true):=rfl
  cases hk:decide (k=1) with
  | false=>
   rw [hk,bNF,ct] at hA
   rw [hk,cf] at htk
   refine bad (ipb _ ?_) hA
   rw [htk]
   rfl
  | true=>
   rw [hk,bNT,cf,n00,hg,ht,op66,callK_some,asT_t,asI_int,endB_nil] at hA
   rw [hk,ct] at htk
   have hs:tkS (tokT s k v)=s:=rfl
   generalize hop:opOf s.data.toList=op at hA
   have hrange:op= -1∨((0:Int)≤op∧op<13):=by
    have:=opIx_ge shL 0 s.data.toList
    have e13:((0:Nat):Int)+(shL.length:Int)=13:=rfl
    unfold opOf at hop
    rw [hop] at this
    rcases this with h | ⟨h,h2⟩
    ·exact .inl h
    ·exact .inr ⟨by omega,by omega⟩
   rcases hrange with hr | ⟨hr,hr2⟩
   ·rw [decide_eq_true (by omega:op<0),ct] at hA
    refine bad (ipb _ ?_) hA
    rw [htk]
    dsimp only
    rw [hs,hop,hr]
    rfl
   ·have hisop:isOp op=true:=by unfold isOp; rw [decide_eq_true hr,decide_eq_true hr2]; rfl
    obtain ⟨rem,h1,h2,h3,h4,pre,t,p1,p2,p3⟩:=sh_rem (shOf op) (sh_or op)
    rw [decide_eq_false (by omega:¬op<0),cf,n00,hg,ht,op66,callK_some,asT_t,asI_int,endB_nil,hop,word63,callK_some,asTup_tup,consV_cons,asT_t,asS_str,consV_cons,asT_t,asS_str,endV_nil,endB_nil,cutL_1,h3] at hA
    have hreal:∀y∈r,Real y:=fun y hy=>hl y (List.mem_cons_of_mem _ hy)
    have hw:=walk34 z (rem.map lc) 0 0 0 0 0 op rem.length (List.length_map _) h4 rem r [] 0 h1 hreal (by simp) (by simp)
    have hsz:((⟨⟨rem.map lc⟩⟩:ByteArray).size:Int)=(rem.length:Int):=by rw [bytes_size,List.length_map]
    rw [hsz] at hA
    have hA2:vr 34 0 [.t (.list 3 z (tokT s k v::r))] e0=L34_8 z r ⟨⟨rem.map lc⟩⟩ (rem.length:Int) ((([]:List Int).length:Nat):Int) 0 0 0 0 0 op 0 0 0 0 true (fldT ([]++List.replicate (3 - ([]:List Int).length) 0)):=hA
    obtain ⟨g1,g2⟩:=ref_prog t p2 pre 0 r p3 hreal
    rw [←p1] at g1 g2
    have hir:insR (tokT s k v::r) false=(insG op (progF [(shOf op).k0,(shOf op).k1,(shOf op).k2] 0 r false).2.1 (progF [(shOf op).k0,(shOf op).k1,(shOf op).k2] 0 r false).1,(progF [(shOf op).k0,(shOf op).k1,(shOf op).k2] 0 r false).2.2):=by
     rw [insR_prog,htk]
     dsimp only
     rw [hs,hop,hisop]
     rfl
    rw [hir]
    dsimp only
    have hrm:=ref_more rem (3 - rem.length) 0 r
    rw [←h2] at hrm
    cases hq:refF rem 0 r with
    | none=>
     rw [hq] at hw hrm
     obtain ⟨y,hy⟩:=hw
     have hb:((progF [(shOf op).k0,(shOf op).k1,(shOf op).k2] 0 r false).2.2.2 || !(progF [(shOf op).k0,(shOf op).k1,(shOf op).k2] 0 r false).2.2.1.isEmpty)=true:=by
      cases hbad:(progF [(shOf op).k0,(shOf op).k1,(shOf op).k2] 0 r false).2.2.2 with
      | true=>rfl
      | false=>
       cases hrest:(progF [(shOf op).k0,(shOf op).k1,(shOf op).k2] 0 r false).2.2.1 with
       | cons _ _=>rfl
       | nil=>
        obtain ⟨w,hw1,_⟩:=g2 hbad hrest
        rw [hrm] at hw1
        cases hw1
     rw [hb]
     exact ⟨y,hA2.trans hy,fun h=>by cases h⟩
    | some x=>
     rw [hq] at hw hrm
     have hw:_=_:=hw
     refine ⟨insG op x.2.1 (x.1++List.replicate (3 - rem.length) 0),hA2.trans ?_, ?_⟩
     ·refine Eq.trans hw ?_
      cases hx2:x.2.2 with
      | nil=>
       rw [g1 _ hrm hx2]
       rfl
      | cons a b=>
       have hb:((progF [(shOf op).k0,(shOf op).k1,(shOf op).k2] 0 r false).2.2.2 || !(progF [(shOf op).k0,(shOf op).k1,(shOf op).k2] 0 r false).2.2.1.isEmpty)=true:=by
        cases hbad:(progF [(shOf op).k0,(shOf op).k1,(shOf op).k2] 0 r false).2.2.2 with
        | true=>rfl
        | false=>
         cases hrest:(progF [(shOf op).k0,(shOf op).k1,(shOf op).k2] 0 r false).2.2.1 with
         | cons _ _=>rfl
         | nil=>
          obtain ⟨w,hw1,hw2⟩:=g2 hbad hrest
          rw [hrm] at hw1
          cases hw1
          have hw2:x.2.2=[]:=hw2
          rw [hx2] at hw2
          cases hw2
       rw [hb]
       rfl
     ·intro h
      cases hx2:x.2.2 with
      | nil=>rw [g1 _ hrm hx2]
      | cons a b=>
       exfalso
       cases hbad:(progF [(shOf op).k0,(shOf op).k1,(shOf op).k2] 0 r false).2.2.2 with
       | true=>rw [hbad] at h; cases h
       | false=>
        cases hrest:(progF [(shOf op).k0,(shOf op).k1,(shOf op).k2] 0 r false).2.2.1 with
        | cons _ _=>rw [hbad,hrest] at h; cases h
        | nil=>
         obtain ⟨w,hw1,hw2⟩:=g2 hbad hrest
         rw [hrm] at hw1
         cases hw1
         have hw2:x.2.2=[]:=hw2
         rw [hx2] at hw2
         cases hw2
end Go.Proofs.Ytifkgdmiojnllaa.VM
end
section
namespace Go.Proofs.Ytifkgdmiojnllaa.VM
set_option linter.unusedSectionVars false
set_option linter.unusedVariables false
open Go AM
def okH(p:List T) :Bool:=match p with
 | [a,b,c,d]=>decide (tkK a=1) &&(decide ((tkS a).data.toList=[99,111,100,101]) &&(decide (tkK b=2) &&(decide (tkK c=2) &&decide (tkK d=2))))
 | _=>false
theorem insU(x:Ins) :insT x= .agg [.int .i64 x.op, .int .i64 x.a, .int .i64 x.b, .int .i64 x.c, .int .i64 x.n]:=rfl
theorem take_bad2(l:List T)(k:Int) :(takeR k l true)=(tok0,l,true):=rfl
theorem head_ok(p:List T) :((headR p).2.2 || !(headR p).2.1.isEmpty)= !okH p∧(okH p=true→∃a b c d,p=[a,b,c,d]∧(headR p).1=(tkN b,tkN c,tkN d)):=by
 have code0':decide ((tkS tok0).data.toList=[99,111,100,101])=false:=rfl
 have nilb:∀k b,(takeR k [] b).2.2=true:=by intro k b; cases b <;>rfl
 have bb:∀k l,(takeR k l true).2.2=true:=fun _ _=>rfl
 unfold headR
 dsimp only
 cases p with
 | nil=>exact ⟨rfl,fun h=>by cases h⟩
 | cons a p=>
  by_cases ha:tkK a=1
  ·have t1:takeR 1 (a::p) false=(a,p,false):=by rw [takeR_cons,decide_eq_true ha,ct]
   simp only [t1]
   cases hs:decide ((tkS a).data.toList=[99,111,100,101]) with
   | false=>
    have:okH (a::p)=false:=by
     unfold okH
     split
     ·rename_i heq
      cases heq
      rw [hs,bFA,bAF]
     ·rfl
    rw [this]
    simp only [bNF,take_bad2,bTO]
    exact ⟨trivial,fun h=>by cases h⟩
   | true=>
    simp only [bNT]
    cases p with
    | nil=>exact ⟨rfl,fun h=>by cases h⟩
    | cons b p=>
     by_cases hb:tkK b=2
     ·have t2:takeR 2 (b::p) false=(b,p,false):=by rw [takeR_cons,decide_eq_true hb,ct]
      simp only [t2]
      cases p with
      | nil=>exact ⟨rfl,fun h=>by cases h⟩
      | cons c p=>
       by_cases hc:tkK c=2
       ·have t3:takeR 2 (c::p) false=(c,p,false):=by rw [takeR_cons,decide_eq_true hc,ct]
        simp only [t3]
        cases p with
        | nil=>exact ⟨rfl,fun h=>by cases h⟩
        | cons d p=>
         by_cases hd:tkK d=2
         ·have t4:takeR 2 (d::p) false=(d,p,false):=by rw [takeR_cons,decide_eq_true hd,ct]
          simp only [t4]
          cases p with
          | nil=>
           have:okH [a,b,c,d]=true:=by
            unfold okH
            dsimp only
            rw [decide_eq_true ha,hs,decide_eq_true hb,decide_eq_true hc,decide_eq_true hd]
            rfl
           rw [this]
           exact ⟨rfl,fun _=>⟨a,b,c,d,rfl,rfl⟩⟩
          | cons e p=>exact ⟨rfl,fun h=>by cases h⟩
         ·have t4:takeR 2 (d::p) false=(tok0,d::p,true):=by rw [takeR_cons,decide_eq_false hd,cf]
          simp only [t4]
          have:okH (a::b::c::d::p)=false:=by
           cases p with
           | nil=>
            unfold okH
            dsimp only
            rw [decide_eq_false hd,bAF,bAF,bAF,bAF]
           | cons e p=>rfl
          rw [this]
          exact ⟨rfl,fun h=>by cases h⟩
       ·have t3:takeR 2 (c::p) false=(tok0,c::p,true):=by rw [takeR_cons,decide_eq_false hc,cf]
        simp only [t3,take_bad2]
        have:okH (a::b::c::p)=false:=by
         match p with
         | []=>rfl
         | [d]=>
          unfold okH
          dsimp only
          rw [decide_eq_false hc,bFA,bAF,bAF,bAF]
         | d::e::p=>rfl
        rw [this]
        exact ⟨rfl,fun h=>by cases h⟩
     ·have t2:takeR 2 (b::p) false=(tok0,b::p,true):=by rw [takeR_cons,decide_eq_false hb,cf]
      simp only [t2,take_bad2]
      have:okH (a::b::p)=false:=by
       match p with
       | []=>rfl
       | [c]=>rfl
       | [c,d]=>
        unfold okH
        dsimp only
        rw [decide_eq_false hb,bFA,bAF,bAF]
       | c::d::e::p=>rfl
      rw [this]
      exact ⟨rfl,fun h=>by cases h⟩
  ·have t1:takeR 1 (a::p) false=(tok0,a::p,true):=by rw [takeR_cons,decide_eq_false ha,cf]
   simp only [t1,code0',bNF,take_bad2]
   have:okH (a::p)=false:=by
    unfold okH
    split
    ·rename_i heq
     cases heq
     rw [decide_eq_false ha,bFA]
    ·rfl
   rw [this]
   exact ⟨rfl,fun h=>by cases h⟩
theorem l11_12(z z2:Bool)(all:List T)(ls:List (List T))(hl:∀p∈ls,∀y∈p,Real y)(hb:ls.length≤10000)(R A I:Int) :∀(m j:Nat) (acc:List Ins),m+j=ls.length→acc.length≤j→
  L11_12 z all z2 (ls.map rt3) (ls.length:Int) (j:Int) 0 0 0 false [] R A I (!acc.isEmpty) (acc.map insT)=some (parV all.length (goP (ls.drop j) (j+1) R A I acc),e0)
 | 0,j,acc,h,ha=>by
  have d:decide ((j:Int)<(ls.length:Int))=false:=decide_eq_false (by omega)
  have hc:=check46 R A I (!acc.isEmpty) acc (by omega)
  unfold cdT at hc
  rw [L11_12_eq,RL11_12,d,cf,List.drop_of_length_le (by omega),hc,callK_some,asT_t,asI_int,endB_nil]
  unfold goP parV cdT
  dsimp only
  cases checkB R A I acc <;>rfl
 | m+1,j,acc,h,ha=>by
  have d:decide ((j:Int)<(ls.length:Int))=true:=decide_eq_true (by omega)
  have n0:decide ((0:Int)≤(j:Int))=true:=decide_eq_true (by omega)
  have hlt:j<ls.length:=by omega
  have hg:(ls.map rt3)[j]? =some (.list 3 (!(ls[j]).isEmpty) ls[j]):=by rw [List.getElem?_map,List.getElem?_eq_getElem hlt]; rfl
  obtain ⟨y,h1,h2⟩:=ins34 (!(ls[j]).isEmpty) ls[j] (hl _ (List.getElem_mem hlt))
  have n1:(decide (((acc.map insT).length+1)*(40+1)≤70368744177664) &&decide (40≤1048576))=true:=by
   rw [List.length_map,decide_eq_true (by omega:(acc.length+1)*(40+1)≤70368744177664)]; rfl
  rw [L11_12_eq,RL11_12,d,ct,needC_true n0,Int.toNat_natCast,getT_at hg,asL_list,h1,callK_some,asTup_tup,consV_cons,asT_t,insU,asA_agg,consT_cons,asI_int,consT_cons,asI_int,consT_cons,asI_int,consT_cons,asI_int,consT_cons,asI_int,endT_nil,consV_cons,asT_t,asB_bool,endV_nil,endB_nil,List.drop_eq_getElem_cons hlt,goP,nat64 (by omega)]
  cases hbad:((insR ls[j] false).2.2 || !(insR ls[j] false).2.1.isEmpty) with
  | true=>rfl
  | false=>
   have hy:=h2 hbad
   subst hy
   have ih:=l11_12 z z2 all ls hl hb R A I m (j+1) (acc++[(insR ls[j] false).1]) (by omega) (by rw [List.length_append]; show _+1≤_; omega)
   have hne:(!(acc++[(insR ls[j] false).1]).isEmpty)=(!acc.isEmpty || true):=by cases acc <;>rfl
   have e2:(acc++[(insR ls[j] false).1]).map insT=acc.map insT++[insT (insR ls[j] false).1]:=by rw [List.map_append]; rfl
   rw [hne,e2] at ih
   rw [bNF,bNT,cf,cf,needC_true n1]
   exact ih
theorem parse11(s:ByteArray) :vr 11 0 [.t (.str s)] e0=some (parseOf s,e0):=by
 rw [eq11,R11,cut13,callK_some]
 unfold cutOf parseOf
 cases decide (65536<s.size) with
 | true=>rfl
 | false=>
  rw [cf,cf]
  cases hr:cutS (s.size+1) s.data.toList 0 false [] with
  | err p=>rfl
  | ok out=>
   unfold cutV
   dsimp only
   by_cases hn:4096<out.length
   ·rw [decide_eq_true hn]; rfl
   ·rw [decide_eq_false hn,cf,cf]
    have hreal:∀y∈out,Real y:=cutS_real _ _ _ _ _ (by simp) _ hr
    have ht:∀y∈out,IsTok y:=fun y hy=>(hreal y hy).tok
    have h33:=lines33 (!out.isEmpty) out ht (by omega)
    have d0:decide ((0:Int)=0)=true:=rfl
    rw [asTup_tup,consV_cons,asT_t,asL_list,consV_cons,asT_t,asI_int,consV_cons,asT_t,asI_int,endV_nil,endB_nil,d0,bNT,cf,h33,callK_some]
    cases out with
    | nil=>rfl
    | cons x r=>
     rw [if_neg (List.cons_ne_nil _ _),asT_t,asL_list,endB_nil]
     have hle:=splitL_len (x::r)
     have hmem:=splitL_mem (x::r)
     have hne:=splitL_ne (x::r)
     generalize splitL (x::r)=ls at hle hmem hne
     cases ls with
     | nil=>exact absurd rfl hne
     | cons p ls=>
      have hlr:∀q∈p::ls,∀y∈q,Real y:=fun q hq y hy=>hreal y (hmem q hq y hy).1
      have dl:decide (((((p::ls).map rt3).length:Nat):Int)=0)=false:=decide_eq_false (by rw [List.map_cons,List.length_cons]; omega)
      have n00:∀K:Unit→Option Res,needC (decide (0≤0)) K=K ():=fun K=>rfl
      have n01:∀K:Unit→Option Res,needC (decide (0≤1)) K=K ():=fun K=>rfl
      have n02:∀K:Unit→Option Res,needC (decide (0≤2)) K=K ():=fun K=>rfl
      have n03:∀K:Unit→Option Res,needC (decide (0≤3)) K=K ():=fun K=>rfl
      have hg0:∀K:T→Option Res,getT ((p::ls).map rt3) ((0:Int)).toNat K=K (.list 3 (!p.isEmpty) p):=fun K=>rfl
      obtain ⟨k1,k2⟩:=head_ok p
      have hgo:goP (p::ls) 0 0 0 0 []=bif okH p then goP ls 1 (headR p).1.1 (headR p).1.2.1 (headR p).1.2.2 [] else .bad 0:=by
       rw [goP,k1]
       cases okH p <;>rfl
      have e1:(bif (x::r).isEmpty then V.tup [.t code0, .t (.int .i64 0), .t (.int .i64 6)] else parV (p::ls).length (goP (p::ls) 0 0 0 0 []))=parV (p::ls).length (goP (p::ls) 0 0 0 0 []):=rfl
      rw [e1,hgo,dl,cf,n00,hg0,asL_list]
      have bad:okH p=false→(some (V.tup [.t code0, .t (.int .i64 0), .t (.int .i64 6)],e0):Option Res)=some (parV (p::ls).length (bif okH p then goP ls 1 (headR p).1.1 (headR p).1.2.1 (headR p).1.2.2 [] else .bad 0),e0):=fun h=>by rw [h]; rfl
      by_cases h4:p.length=4
      ·have dp:decide ((p.length:Int)=4)=true:=decide_eq_true (by omega)
       rw [dp,bNT,cf]
       match p,h4,hlr,bad,k2 with
       | [a,b,c,d],_,hlr,bad,k2=>
        have hp:=hlr [a,b,c,d] (List.mem_cons_self ..)
        obtain ⟨sa,ka,va,rfl⟩:=(hp a (by simp)).tok
        obtain ⟨sb,kb,vb,rfl⟩:=(hp b (by simp)).tok
        obtain ⟨sc,kc,vc,rfl⟩:=(hp c (by simp)).tok
        obtain ⟨sd,kd,vd,rfl⟩:=(hp d (by simp)).tok
        have g0:∀K:T→Option Res,getT [tokT sa ka va,tokT sb kb vb,tokT sc kc vc,tokT sd kd vd] ((0:Int)).toNat K=K (tokT sa ka va):=fun K=>rfl
        have g1:∀K:T→Option Res,getT [tokT sa ka va,tokT sb kb vb,tokT sc kc vc,tokT sd kd vd] ((1:Int)).toNat K=K (tokT sb kb vb):=fun K=>rfl
        have g2:∀K:T→Option Res,getT [tokT sa ka va,tokT sb kb vb,tokT sc kc vc,tokT sd kd vd] ((2:Int)).toNat K=K (tokT sc kc vc):=fun K=>rfl
        have g3:∀K:T→Option Res,getT [tokT sa ka va,tokT sb kb vb,tokT sc kc vc,tokT sd kd vd] ((3:Int)).toNat K=K (tokT sd kd vd):=fun K=>rfl
        have ht:∀s k v,∀K:Int→ByteArray→Int→Option Res,(asA (tokT s k v) fun a=>consT a fun b c=>asI .i64 b fun a=>consT c fun b d=>asS b fun c=>consT d fun b f=>asI .i64 b fun d=>endT f <| K a c d)=K k s v:=fun s k v K=>by
         unfold tokT
         rw [asA_agg,consT_cons,asI_int,consT_cons,asS_str,consT_cons,asI_int,endT_nil]
        have hok:okH [tokT sa ka va,tokT sb kb vb,tokT sc kc vc,tokT sd kd vd]=(decide (ka=1) &&(decide (sa.data.toList=[99,111,100,101]) &&(decide (kb=2) &&(decide (kc=2) &&decide (kd=2))))):=rfl
        have hse:decide (sa=⟨#[99,111,100,101]⟩)=decide (sa.data.toList=[99,111,100,101]):=str_eq sa [99,111,100,101]
        rw [n00,g0,ht]
        cases c1:decide (ka=1) with
        | false=>exact bad (by rw [hok,c1]; rfl)
        | true=>
         rw [bNT,cf,n00,g0,ht,hse]
         cases c2:decide (sa.data.toList=[99,111,100,101]) with
         | false=>exact bad (by rw [hok,c1,c2]; rfl)
         | true=>
          rw [bNT,cf,n01,g1,ht]
          cases c3:decide (kb=2) with
          | false=>exact bad (by rw [hok,c1,c2,c3]; rfl)
          | true=>
           rw [bNT,cf,n02,g2,ht]
           cases c4:decide (kc=2) with
           | false=>exact bad (by rw [hok,c1,c2,c3,c4]; rfl)
           | true=>
            rw [bNT,cf,n03,g3,ht]
            cases c5:decide (kd=2) with
            | false=>exact bad (by rw [hok,c1,c2,c3,c4,c5]; rfl)
            | true=>
             have hok2:okH [tokT sa ka va,tokT sb kb vb,tokT sc kc vc,tokT sd kd vd]=true:=by rw [hok,c1,c2,c3,c4,c5]; rfl
             obtain ⟨a',b',c',d',e',hv⟩:=k2 hok2
             cases e'
             rw [bNT,cf,n01,g1,ht,n02,g2,ht,n03,g3,ht,hok2,ct,hv]
             have hcut:∀K:List T→Option Res,cutL (([tokT sa ka va,tokT sb kb vb,tokT sc kc vc,tokT sd kd vd]::ls).map rt3) (some 1) none K=K (ls.map rt3):=fun K=>cutL_1 _ _ K
             have hloop:=l11_12 true true (([tokT sa ka va,tokT sb kb vb,tokT sc kc vc,tokT sd kd vd]::ls).map rt3) ls (fun q hq=>hlr q (List.mem_cons_of_mem _ hq)) (by rw [List.length_cons] at hle; omega) vb vc vd ls.length 0 [] (Nat.add_zero _) (Nat.le_refl _)
             have hll:(((ls.map rt3).length:Nat):Int)=(ls.length:Int):=by rw [List.length_map]
             have hal:(([tokT sa ka va,tokT sb kb vb,tokT sc kc vc,tokT sd kd vd]::ls).map rt3).length=([tokT sa ka va,tokT sb kb vb,tokT sc kc vc,tokT sd kd vd]::ls).length:=List.length_map _
             rw [hal,List.drop_zero] at hloop
             rw [hcut,hll]
             exact hloop
      ·have dp:decide ((p.length:Int)=4)=false:=decide_eq_false (by omega)
       rw [dp,bNF,ct]
       refine bad ?_
       unfold okH
       split
       ·exact absurd rfl h4
       ·rfl
theorem same12(r a i:Int)(z z2:Bool)(L:List Ins)(hb:L.length≤100000) :vr 12 0 [.t (cdT r a i z L), .t (cdT r a i z2 L)] e0=some (.t (.bool true),e0):=by
 have h2:∀(m j:Nat),m+j=L.length→L12_4 (L.length:Int) (j:Int) r a i z (L.map insT) r a i z2 (L.map insT)=some (.t (.bool true),e0):=by
  intro m
  induction m with
  | zero=>
   intro j h
   have d:decide ((j:Int)<(L.length:Int))=false:=decide_eq_false (by omega)
   rw [L12_4_eq,RL12_4,d,cf]
  | succ m ih=>
   intro j h
   have d:decide ((j:Int)<(L.length:Int))=true:=decide_eq_true (by omega)
   have n0:decide ((0:Int)≤(j:Int))=true:=decide_eq_true (by omega)
   have hlt:j<L.length:=by omega
   have hi:insT L[j]= .agg [.int .i64 L[j].op, .int .i64 L[j].a, .int .i64 L[j].b, .int .i64 L[j].c, .int .i64 L[j].n]:=rfl
   rw [L12_4_eq,RL12_4,d,ct,needC_true n0,Int.toNat_natCast,ins_at hlt,hi,asA_agg,consT_cons,asI_int,consT_cons,asI_int,consT_cons,asI_int,consT_cons,asI_int,consT_cons,asI_int,endT_nil,needC_true n0,ins_at hlt,hi,asA_agg,consT_cons,asI_int,consT_cons,asI_int,consT_cons,asI_int,consT_cons,asI_int,consT_cons,asI_int,endT_nil,decide_eq_true rfl,decide_eq_true rfl,decide_eq_true rfl,decide_eq_true rfl,decide_eq_true rfl,nat64 (by omega)]
   exact ih (j+1) (by omega)
 unfold cdT
 rw [eq12,R12,decide_eq_true rfl,decide_eq_true rfl,decide_eq_true rfl,decide_eq_true rfl,bNT,cf,cf,cf,cf,List.length_map]
 exact h2 L.length 0 (Nat.add_zero _)
theorem parse_form(s:ByteArray) :∃r a i z L n e,parseOf s= .tup [.t (cdT r a i z L), .t (.int .i64 n), .t (.int .i64 e)]∧L.length≤100000:=by
 have c0:code0=cdT 0 0 0 false []:=rfl
 unfold parseOf
 cases decide (65536<s.size) with
 | true=>exact ⟨0,0,0,false,[],_,_,rfl,Nat.zero_le _⟩
 | false=>
  rw [cf]
  cases cutS (s.size+1) s.data.toList 0 false [] with
  | err p=>exact ⟨0,0,0,false,[],_,_,rfl,Nat.zero_le _⟩
  | ok out=>
   dsimp only
   cases decide (4096<out.length) with
   | true=>exact ⟨0,0,0,false,[],_,_,rfl,Nat.zero_le _⟩
   | false=>
    rw [cf]
    cases out.isEmpty with
    | true=>exact ⟨0,0,0,false,[],_,_,rfl,Nat.zero_le _⟩
    | false=>
     rw [cf]
     cases goP (splitL out) 0 0 0 0 [] with
     | bad k=>exact ⟨0,0,0,false,[],_,_,rfl,Nat.zero_le _⟩
     | ok r a i l=>
      unfold parV
      dsimp only
      cases hc:checkB r a i l with
      | false=>exact ⟨0,0,0,false,[],_,_,rfl,Nat.zero_le _⟩
      | true=>exact ⟨r,a,i,_,l,_,_,rfl,by have:=((check_iff r a i l).1 hc).len; omega⟩
theorem live_parse :parseOf ⟨#[99,111,100,101,32,49,32,48,32,48,10,104,97,108,116]⟩= .tup [.t (cdT 1 0 0 true [⟨0,0,0,0,0⟩]), .t (.int .i64 2), .t (.int .i64 0)]:=by kernel_rfl
theorem live9 :vr 9 0 [] e0=some (.t (.bool true),e0):=by
 have hc:=check14 1 0 0 true [⟨0,0,0,0,0⟩]
 have e:checkB 1 0 0 [⟨0,0,0,0,0⟩]=true:=by kernel_rfl
 rw [e] at hc
 rw [eq9,R9,parse10,live_parse,callK_some]
 unfold cdT at hc ⊢
 rw [asTup_tup,consV_cons,asT_t,asA_agg,consT_cons,asI_int,consT_cons,asI_int,consT_cons,asI_int,consT_cons,asL_list,endT_nil,consV_cons,asT_t,asI_int,consV_cons,asT_t,asI_int,endV_nil,endB_nil]
 have d1:decide ((2:Int)=2)=true:=rfl
 have d2:decide ((0:Int)=0)=true:=rfl
 have d3:decide ((1:Int)=1)=true:=rfl
 have d4:decide (((([⟨0,0,0,0,0⟩]:List Ins).map insT).length:Int)=1)=true:=rfl
 rw [d1,ct,d2,ct,d3,ct,d4,ct,hc,callK_some,asT_t,asI_int,endB_nil]
 rfl
theorem reads_spec(s:ByteArray)(ws:s.size≤140737488351232) :∃st,vr 3 0 [.t (.str s)] ⟨[],[]⟩=some (.t (.bool true),st):=by
 refine ⟨e0, ?_⟩
 obtain ⟨r,a,i,z,L,n,e,h1,h2⟩:=parse_form s
 have hs:=same12 r a i z z L h2
 rw [eq3,R3,live9,callK_some,asT_t,asB_bool,endB_nil]
 cases decide ((20000:Int)<(s.size:Int)) with
 | true=>rfl
 | false=>
  rw [cf,parse10,h1,callK_some]
  unfold cdT at hs ⊢
  rw [asTup_tup,consV_cons,asT_t,asA_agg,consT_cons,asI_int,consT_cons,asI_int,consT_cons,asI_int,consT_cons,asL_list,endT_nil,consV_cons,asT_t,asI_int,consV_cons,asT_t,asI_int,endV_nil,endB_nil,parse11,h1,callK_some]
  unfold cdT
  rw [asTup_tup,consV_cons,asT_t,asA_agg,consT_cons,asI_int,consT_cons,asI_int,consT_cons,asI_int,consT_cons,asL_list,endT_nil,consV_cons,asT_t,asI_int,consV_cons,asT_t,asI_int,endV_nil,endB_nil,ct,hs,callK_some,asT_t,asB_bool,endB_nil,ct,decide_eq_true rfl,ct,decide_eq_true rfl]
end Go.Proofs.Ytifkgdmiojnllaa.VM
end
