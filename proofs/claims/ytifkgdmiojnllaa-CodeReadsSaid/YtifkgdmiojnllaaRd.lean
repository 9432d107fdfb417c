/- Merged: Rd1 Rd2 Rd3 Ck1 Rd4. Conditions: none. -/
import Derived.Test.YtifkgdmiojnllaaLx
set_option linter.all false
section
namespace Go.Proofs.Ytifkgdmiojnllaa.VM
set_option linter.unusedSectionVars false
open Go AM
def tkN :T→Int
 | .agg (_::_:: .int _ n::_)=>n
 | _=>0
abbrev tok0 :T:=tokT ByteArray.empty 0 0
abbrev rdSt(z:Bool)(l:List T)(b:Bool) :St:=⟨[(0, .var [.t (.list 3 z l), .t (.bool b)])],[]⟩
abbrev rdOut(z:Bool)(l:List T)(b:Bool) :St:=⟨[(0, .var [.t (.list 3 z l), .t (.bool b)])],[500]⟩
def takeR(k:Int)(l:List T)(b:Bool) :T×List T×Bool:=
 bif b then (tok0,l,true) else match l with
 | []=>(tok0,[],true)
 | x::r=>bif decide (tkK x=k) then (x,r,false) else (tok0,x::r,true)
theorem takeR_bad(k:Int)(l:List T) :takeR k l true=(tok0,l,true):=rfl
theorem takeR_nil(k:Int) :takeR k [] false=(tok0,[],true):=rfl
theorem takeR_cons(k:Int)(x:T)(r:List T) :takeR k (x::r) false=bif decide (tkK x=k) then (x,r,false) else (tok0,x::r,true):=rfl
theorem takeR_ok(k:Int)(l:List T)(b:Bool)(hl:∀y∈l,IsTok y) :IsTok (takeR k l b).1∧(∀y∈(takeR k l b).2.1,IsTok y)∧(takeR k l b).2.1.length≤l.length:=by
 unfold takeR
 cases b with
 | true=>exact ⟨⟨_,_,_,rfl⟩,hl,Nat.le_refl _⟩
 | false=>
  cases l with
  | nil=>exact ⟨⟨_,_,_,rfl⟩,hl,Nat.le_refl _⟩
  | cons x r=>
   dsimp only [cond_false]
   cases decide (tkK x=k) with
   | true=>exact ⟨hl x (by simp),fun y hy=>hl y (List.mem_cons_of_mem _ hy),by simp⟩
   | false=>exact ⟨⟨_,_,_,rfl⟩,hl,Nat.le_refl _⟩
theorem cutL_1{R:Type}(x:T)(r:List T)(K:List T→Option R) :cutL (x::r) (some 1) none K=K r:=by
 have:=cutL_drop (l:=x::r) (i:=1) (by simp) K
 simpa using this
theorem take30(z:Bool)(k:Int)(l:List T)(b:Bool)(hl:∀y∈l,IsTok y) :vr 30 0 [.ptr 0 0 0, .t (.int .i64 k)] (rdSt z l b)=some (.t (takeR k l b).1,rdOut z (takeR k l b).2.1 (takeR k l b).2.2):=by
 rw [eq30,R30]
 cases b with
 | true=>rw [ct]; rfl
 | false=>
  rw [cf]
  cases l with
  | nil=>rfl
  | cons x r=>
   obtain ⟨s,k',n,rfl⟩:=hl x (by simp)
   have d:decide ((((tokT s k' n)::r).length:Int)=0)=false:=decide_eq_false (by simp; omega)
   have g:((tokT s k' n)::r)[((0:Int)).toNat]? =some (tokT s k' n):=rfl
   have n0:decide ((0:Nat)≤0)=true:=rfl
   have e:tkK (tokT s k' n)=k':=rfl
   rw [d,cf,needC_true n0,getT_at g,takeR_cons,e]
   unfold tokT
   rw [asA_agg,consT_cons,asI_int,consT_cons,asS_str,consT_cons,asI_int,endT_nil]
   cases decide (k'=k) with
   | true=>
    rw [bNT,cf,needC_true n0]
    have g2:(T.agg [.int .i64 k', .str s, .int .i64 n]::r)[((0:Int)).toNat]? =some (.agg [.int .i64 k', .str s, .int .i64 n]):=rfl
    rw [getT_at g2,asA_agg,consT_cons,asI_int,consT_cons,asS_str,consT_cons,asI_int,endT_nil,cutL_1]
    rfl
   | false=>rfl
theorem has87(s:ByteArray)(c:UInt8) :vr 87 0 [.t (.str s), .t (.str ⟨#[c]⟩)] e0=some (.t (.bool (match s.data.toList with | d::_=>decide (d=c) | []=>false)),e0):=by
 rw [eq87,R87]
 have h1:((⟨#[c]⟩:ByteArray).size:Int)=1:=rfl
 rw [h1]
 cases hs:s.data.toList with
 | nil=>
  have hz:s.size=0:=by rw [←size_list,hs]; rfl
  rw [decide_eq_false (by omega),cf]
 | cons d t=>
  have hz:s.size=t.length+1:=by rw [←size_list,hs]; rfl
  rw [decide_eq_true (by omega),ct]
  unfold subS
  simp only [Option.getD_none,Option.getD_some]
  rw [decide_eq_true (by omega:(0:Int)≤0),decide_eq_true (by omega:(0:Int)≤1),decide_eq_true (by omega:(1:Int)≤(s.size:Int))]
  rw [bTA,bTA,needC_t]
  have h:=str_eq (s.extract ((0:Int)).toNat ((1:Int)).toNat) [c]
  have h2:(s.extract ((0:Int)).toNat ((1:Int)).toNat).data.toList=[d]:=by rw [ext_list,hs]; rfl
  rw [h2] at h
  have h3:decide (([d]:List UInt8)=[c])=decide (d=c):=decide_eq_decide.2 ⟨fun h=>by simpa using h,fun h=>by simpa using h⟩
  rw [h3] at h
  exact congrArg (fun b=>some (V.t (T.bool b),e0)) h
theorem cut85(s:ByteArray)(c:UInt8) :vr 85 0 [.t (.str s), .t (.str ⟨#[c]⟩)] e0=some (match s.data.toList with | d::t=>bif decide (d=c) then .tup [.t (.str ⟨⟨t⟩⟩), .t (.bool true)] else .tup [.t (.str s), .t (.bool false)] | []=> .tup [.t (.str s), .t (.bool false)],e0):=by
 have hh:=has87 s c
 rw [eq85,R85]
 cases hs:s.data.toList with
 | nil=>
  rw [hs] at hh
  rw [hh,callK_some,asT_t,asB_bool,endB_nil,bNF,ct]
 | cons d t=>
  rw [hs] at hh
  dsimp only at hh ⊢
  rw [hh,callK_some,asT_t,asB_bool,endB_nil]
  cases decide (d=c) with
  | false=>rw [bNF,ct,cf]
  | true=>
   have hz:s.size=t.length+1:=by rw [←size_list,hs]; rfl
   have hs1:=sub_drop (R:=V×St) s (pos:=1) (by omega)
   have h1:((⟨#[c]⟩:ByteArray).size:Int)=((1:Nat):Int):=rfl
   rw [bNT,cf,h1,hs1,hs,ct]
   rfl
theorem cut78(s:ByteArray)(c:UInt8) :vr 78 0 [.t (.str s), .t (.str ⟨#[c]⟩)] e0=some (match s.data.toList with | d::t=>bif decide (d=c) then .tup [.t (.str ⟨⟨t⟩⟩), .t (.bool true)] else .tup [.t (.str s), .t (.bool false)] | []=> .tup [.t (.str s), .t (.bool false)],e0):=by
 rw [eq78,R78,cut85,callK_some]
 cases s.data.toList with
 | nil=>rfl
 | cons d t=>
  dsimp only
  cases decide (d=c) with
  | true=>rfl
  | false=>rfl
def behindR(c:UInt8)(l:List T)(b:Bool) :Int×List T×Bool:=
 match (tkS (takeR 1 l b).1).data.toList with
 | []=>(0,(takeR 1 l b).2.1,true)
 | d::t=>bif decide (d=c) then (match number t with | some n=>(n,(takeR 1 l b).2.1,(takeR 1 l b).2.2) | none=>(0,(takeR 1 l b).2.1,true)) else ((number (d::t)).getD 0,(takeR 1 l b).2.1,true)
theorem behind61(z:Bool)(c:UInt8)(l:List T)(b:Bool)(hl:∀y∈l,IsTok y) :vr 61 0 [.ptr 0 0 0, .t (.str ⟨#[c]⟩)] (rdSt z l b)=some (.t (.int .i64 (behindR c l b).1),rdOut z (behindR c l b).2.1 (behindR c l b).2.2):=by
 rw [eq61,R61,take30 z 1 l b hl,callK_some]
 unfold behindR
 obtain ⟨⟨s,k,n,hx⟩,_,_⟩:=takeR_ok 1 l b hl
 rw [hx]
 unfold tokT
 have e:tkS (.agg [.int .i64 k, .str s, .int .i64 n])=s:=rfl
 rw [asT_t,asA_agg,consT_cons,asI_int,consT_cons,asS_str,consT_cons,asI_int,endT_nil,consB_cons,asVar_var,consV_cons,asT_t,asL_list,consV_cons,asT_t,asB_bool,endV_nil,endB_nil,cut78,callK_some,e]
 cases hs:s.data.toList with
 | nil=>
  dsimp only
  rw [asTup_tup,consV_cons,asT_t,asS_str,consV_cons,asT_t,asB_bool,endV_nil,endB_nil,number15,callK_some,hs]
  rfl
 | cons d t=>
  dsimp only
  cases decide (d=c) with
  | true=>
   rw [ct,ct,asTup_tup,consV_cons,asT_t,asS_str,consV_cons,asT_t,asB_bool,endV_nil,endB_nil,number15,callK_some]
   have e1:(⟨⟨t⟩⟩:ByteArray).data.toList=t:=rfl
   rw [e1]
   cases number t with
   | some n=>rfl
   | none=>rfl
  | false=>
   rw [cf,cf,asTup_tup,consV_cons,asT_t,asS_str,consV_cons,asT_t,asB_bool,endV_nil,endB_nil,number15,callK_some,hs]
   cases number (d::t) with
   | some n=>rfl
   | none=>rfl
theorem behindR_ok(c:UInt8)(l:List T)(b:Bool)(hl:∀y∈l,IsTok y) :∀y∈(behindR c l b).2.1,IsTok y:=by
 have h:=(takeR_ok 1 l b hl).2.1
 unfold behindR
 split
 ·exact h
 ·rename_i d t _
  cases decide (d=c) with
  | false=>exact h
  | true=>
   dsimp only [cond_true]
   cases number t <;>exact h
def signedR(l:List T)(b:Bool) :Int×List T×Bool:=
 match l with
 | []=>(tkN (takeR 2 l b).1,(takeR 2 l b).2.1,(takeR 2 l b).2.2)
 | x::_=>bif !decide ((tkS x).data.toList=[45]) then (tkN (takeR 2 l b).1,(takeR 2 l b).2.1,(takeR 2 l b).2.2) else
  (IntKind.i64.wrap (0 - tkN (takeR 2 (takeR 3 l b).2.1 (takeR 3 l b).2.2).1),(takeR 2 (takeR 3 l b).2.1 (takeR 3 l b).2.2).2.1,
   bif decide (tkN (takeR 2 (takeR 3 l b).2.1 (takeR 3 l b).2.2).1=0) then true else (takeR 2 (takeR 3 l b).2.1 (takeR 3 l b).2.2).2.2)
theorem signedR_ok(l:List T)(b:Bool)(hl:∀y∈l,IsTok y) :∀y∈(signedR l b).2.1,IsTok y:=by
 unfold signedR
 cases l with
 | nil=>exact (takeR_ok 2 [] b hl).2.1
 | cons x r=>
  dsimp only
  cases decide ((tkS x).data.toList=[45]) with
  | false=>exact (takeR_ok 2 _ b hl).2.1
  | true=>exact (takeR_ok 2 _ _ (takeR_ok 3 _ b hl).2.1).2.1
theorem signed62(z:Bool)(l:List T)(b:Bool)(hl:∀y∈l,IsTok y) :vr 62 0 [.ptr 0 0 0] (rdSt z l b)=some (.t (.int .i64 (signedR l b).1),rdOut z (signedR l b).2.1 (signedR l b).2.2):=by
 rw [eq62,R62]
 unfold signedR
 have one:(callK (vr 30 0 [(V.ptr 0 0 0),(V.t (.int .i64 2))] ⟨[(0,(.var [(.t (.list 3 z l)),(.t (.bool b))]))],[]⟩) fun v_1 b_2=>
   asT v_1 fun x_3=>asA x_3 fun l_4=>consT l_4 fun v_5 l_6=>asI .i64 v_5 fun x_7=>consT l_6 fun v_8 l_9=>asS v_8 fun s_10=>consT l_9 fun v_11 l_12=>asI .i64 v_11 fun x_13=>endT l_12 <|
   consB 0 b_2 fun k_14 b_15=>asVar k_14 fun l_16=>consV l_16 fun v_17 l_18=>asT v_17 fun x_19=>asL 3 x_19 fun nn_20 l_21=>consV l_18 fun v_22 l_23=>asT v_22 fun x_24=>asB x_24 fun b_25=>endV l_23 <| endB b_15 <|
   some ((V.t (.int .i64 x_13)),(⟨[(0,(.var [(.t (.list 3 nn_20 l_21)),(.t (.bool b_25))]))],[500]⟩:St)))=some (V.t (.int .i64 (tkN (takeR 2 l b).1)),rdOut z (takeR 2 l b).2.1 (takeR 2 l b).2.2):=by
  have ht:=take30 z 2 l b hl
  obtain ⟨⟨s,k,n,hx⟩,_,_⟩:=takeR_ok 2 l b hl
  rw [ht,callK_some,hx]
  unfold tokT
  rw [asT_t,asA_agg,consT_cons,asI_int,consT_cons,asS_str,consT_cons,asI_int,endT_nil,consB_cons,asVar_var,consV_cons,asT_t,asL_list,consV_cons,asT_t,asB_bool,endV_nil,endB_nil]
  rfl
 cases l with
 | nil=>exact one
 | cons x r=>
  obtain ⟨s,k,n,rfl⟩:=hl x (by simp)
  have d:decide ((((tokT s k n)::r).length:Int)=0)=false:=decide_eq_false (by simp; omega)
  have n0:decide ((0:Nat)≤0)=true:=rfl
  have g:((tokT s k n)::r)[((0:Int)).toNat]? =some (.agg [.int .i64 k, .str s, .int .i64 n]):=rfl
  rw [d,cf,needC_true n0,getT_at g,asA_agg,consT_cons,asI_int,consT_cons,asS_str,consT_cons,asI_int,endT_nil]
  have e:decide (s=⟨#[45]⟩)=decide (s.data.toList=[45]):=str_eq s [45]
  have e2:tkS (tokT s k n)=s:=rfl
  dsimp only
  rw [e,e2]
  cases decide (s.data.toList=[45]) with
  | false=>
   rw [bNF,ct,ct]
   exact one
  | true=>
   rw [bNT,cf,cf]
   have t3:=take30 z 3 _ b hl
   obtain ⟨⟨s3,k3,n3,hx3⟩,hl3,_⟩:=takeR_ok 3 _ b hl
   have t2:=take30 z 2 _ (takeR 3 (tokT s k n::r) b).2.2 hl3
   obtain ⟨⟨s2,k2,n2,hx2⟩,_,_⟩:=takeR_ok 2 _ (takeR 3 (tokT s k n::r) b).2.2 hl3
   rw [t3,callK_some,hx3]
   unfold tokT at hx3 hx2 t2 ⊢
   rw [asT_t,asA_agg,consT_cons,asI_int,consT_cons,asS_str,consT_cons,asI_int,endT_nil,consB_cons,asVar_var,consV_cons,asT_t,asL_list,consV_cons,asT_t,asB_bool,endV_nil,endB_nil,t2,callK_some,hx2]
   rw [asT_t,asA_agg,consT_cons,asI_int,consT_cons,asS_str,consT_cons,asI_int,endT_nil,consB_cons,asVar_var,consV_cons,asT_t,asL_list,consV_cons,asT_t,asB_bool,endV_nil,endB_nil]
   have e3:tkN (.agg [.int .i64 k2, .str s2, .int .i64 n2])=n2:=rfl
   rw [e3]
   cases decide (n2=0) with
   | true=>rfl
   | false=>rfl
end Go.Proofs.Ytifkgdmiojnllaa.VM
end
section
namespace Go.Proofs.Ytifkgdmiojnllaa.VM
set_option linter.unusedSectionVars false
open Go AM
structure Sh where
 w:List UInt8
 k0:Int
 k1:Int
 k2:Int
def shL :List Sh:=[⟨[104,97,108,116],0,0,0⟩,⟨[115,101,116],1,5,0⟩,⟨[109,111,118,101],1,2,0⟩,⟨[97,100,100],1,2,2⟩,⟨[115,117,98],1,2,2⟩,⟨[109,117,108],1,2,2⟩,
 ⟨[108,111,97,100],1,3,2⟩,⟨[115,116,111,114,101],3,2,2⟩,⟨[108,101,110],1,3,0⟩,⟨[112,117,115,104],3,2,0⟩,⟨[106,117,109,112],4,0,0⟩,⟨[108,101,115,115],2,2,4⟩,⟨[115,97,109,101],2,2,4⟩]
def shT(s:Sh) :T:= .agg [.str ⟨⟨s.w⟩⟩, .int .i64 s.k0, .int .i64 s.k1, .int .i64 s.k2]
def sh0 :Sh:=⟨[],0,0,0⟩
theorem shapes59 :vr 59 0 [] e0=some (.t (.list 4 true (shL.map shT)),e0):=by
 rw [eq59,R59]
 rfl
def isOp(op:Int) :Bool:=decide (0≤op) &&decide (op<13)
def shOf(op:Int) :Sh:=bif isOp op then (shL[op.toNat]?).getD sh0 else sh0
theorem of38(op:Int) :vr 38 0 [.t (.int .i64 op)] e0=some (.tup [.t (shT (shOf op)), .t (.bool (isOp op))],e0):=by
 rw [eq38,R38,shapes59,callK_some,asT_t,asL_list,endB_nil]
 unfold shOf
 have hl:((shL.map shT).length:Int)=13:=rfl
 rw [hl]
 by_cases h0:op<0
 ·have:isOp op=false:=by unfold isOp; rw [decide_eq_false (by omega:¬0≤op)]; rfl
  rw [decide_eq_true h0,ct,this,cf]
  rfl
 ·rw [decide_eq_false h0,cf]
  by_cases h1:13≤op
  ·have:isOp op=false:=by unfold isOp; rw [decide_eq_false (by omega:¬op<13),bAF]
   rw [decide_eq_true h1,ct,this,cf]
   rfl
  ·have:isOp op=true:=by unfold isOp; rw [decide_eq_true (by omega:0≤op),decide_eq_true (by omega:op<13)]; rfl
   rw [decide_eq_false h1,cf,this,ct,needC_true (decide_eq_true (by omega:0≤op))]
   have hlt:op.toNat<shL.length:=by show op.toNat<13; omega
   have hg:(shL.map shT)[op.toNat]? =some (shT shL[op.toNat]):=by rw [List.getElem?_map,List.getElem?_eq_getElem hlt]; rfl
   rw [getT_at hg,List.getElem?_eq_getElem hlt]
   rfl
def opIx(l:List Sh)(i:Nat)(w:List UInt8) :Int:=
 match l with
 | []=> -1
 | s::l=>bif decide (s.w=w) then (i:Int) else opIx l (i+1) w
def opOf(w:List UInt8) :Int:=opIx shL 0 w
theorem L58_spec(w:ByteArray)(l:List Sh)(hb:l.length≤1000) :∀(m i:Nat),m+i=l.length→
  L58_2 true (l.map shT) ((l.map shT).length:Int) (i:Int) w=some (.t (.int .i64 (opIx (l.drop i) i w.data.toList)),⟨[(0, .var [.t (.str w)])],[500]⟩)
 | 0,i,h=>by
  have d:decide ((i:Int)<((l.map shT).length:Int))=false:=decide_eq_false (by rw [List.length_map]; omega)
  rw [L58_2_eq,RL58_2,d,cf,List.drop_of_length_le (by omega)]
  rfl
 | m+1,i,h=>by
  have d:decide ((i:Int)<((l.map shT).length:Int))=true:=decide_eq_true (by rw [List.length_map]; omega)
  have n0:decide ((0:Int)≤(i:Int))=true:=decide_eq_true (by omega)
  have hw:IntKind.i64.wrap ((i:Int)+1)=((i+1:Nat):Int):=by rw [wrap64 (by omega) (by omega)]; simp
  have hlt:i<l.length:=by omega
  have hg:(l.map shT)[i]? =some (shT l[i]):=by rw [List.getElem?_map,List.getElem?_eq_getElem hlt]; rfl
  rw [L58_2_eq,RL58_2,d,ct,needC_true n0,Int.toNat_natCast,getT_at hg,hw,List.drop_eq_getElem_cons hlt]
  have ih:=L58_spec w l hb m (i+1) (by omega)
  unfold shT at ih ⊢
  rw [asA_agg,consT_cons,asS_str,consT_cons,asI_int,consT_cons,asI_int,consT_cons,asI_int,endT_nil,eq60,R60,callK_some,asT_t,asB_bool,consB_cons,asVar_var,consV_cons,asT_t,asS_str,endV_nil,endB_nil]
  have e:decide ((⟨⟨l[i].w⟩⟩:ByteArray)=w)=decide (l[i].w=w.data.toList):=by
   have:=str_eq w l[i].w
   rw [←decide_eq_decide.2 (Iff.intro Eq.symm Eq.symm:w=⟨⟨l[i].w⟩⟩↔⟨⟨l[i].w⟩⟩=w),this]
   exact decide_eq_decide.2 ⟨Eq.symm,Eq.symm⟩
  rw [e]
  unfold opIx
  cases decide (l[i].w=w.data.toList) with
  | true=>rfl
  | false=>rw [cf,cf]; exact ih
theorem index58(w:ByteArray) :vr 58 0 [.t (.list 4 true (shL.map shT)), .fn 60 [] [.ptr 0 0 0]] ⟨[(0, .var [.t (.str w)])],[]⟩=some (.t (.int .i64 (opOf w.data.toList)),⟨[(0, .var [.t (.str w)])],[500]⟩):=by
 rw [eq58,R58]
 exact L58_spec w shL (by decide) 13 0 rfl
theorem opIx_ge :∀(l:List Sh) (i:Nat) (w:List UInt8),opIx l i w= -1∨((i:Int)≤opIx l i w∧opIx l i w<i+l.length)
 | [],i,w=> .inl rfl
 | s::l,i,w=>by
  unfold opIx
  cases decide (s.w=w) with
  | true=>right; simp; omega
  | false=>
   rw [cf]
   rcases opIx_ge l (i+1) w with h | ⟨h1,h2⟩
   ·exact .inl h
   ·right; simp at h1 h2 ⊢; omega
structure Ins where
 op:Int
 a:Int
 b:Int
 c:Int
 n:Int
def insT(x:Ins) :T:= .agg [.int .i64 x.op, .int .i64 x.a, .int .i64 x.b, .int .i64 x.c, .int .i64 x.n]
def fldR(k:Int)(n:Int)(l:List T)(b:Bool) :Int×Int×List T×Bool:=
 if k=1∨k=2 then ((behindR 114 l b).1,n,(behindR 114 l b).2.1,(behindR 114 l b).2.2)
 else if k=3 then ((behindR 97 l b).1,n,(behindR 97 l b).2.1,(behindR 97 l b).2.2)
 else if k=4 then (tkN (takeR 2 l b).1,n,(takeR 2 l b).2.1,(takeR 2 l b).2.2)
 else if k=5 then (0,(signedR l b).1,(signedR l b).2.1,(signedR l b).2.2)
 else (0,n,l,b)
def insR(l:List T)(b:Bool) :Ins×List T×Bool:=
 let t:=takeR 1 l b
 let op:=opOf (tkS t.1).data.toList
 let s:=shOf op
 let x:=fldR s.k0 0 t.2.1 (bif isOp op then t.2.2 else true)
 let y:=fldR s.k1 x.2.1 x.2.2.1 x.2.2.2
 let z:=fldR s.k2 y.2.1 y.2.2.1 y.2.2.2
 (⟨op,x.1,y.1,z.1,z.2.1⟩,z.2.2.1,z.2.2.2)
theorem fldR_ok(k n:Int)(l:List T)(b:Bool)(hl:∀y∈l,IsTok y) :∀y∈(fldR k n l b).2.2.1,IsTok y:=by
 unfold fldR
 split
 ·exact behindR_ok _ l b hl
 ·split
  ·exact behindR_ok _ l b hl
  ·split
   ·exact (takeR_ok 2 l b hl).2.1
   ·split
    ·exact signedR_ok l b hl
    ·exact hl
end Go.Proofs.Ytifkgdmiojnllaa.VM
end
section
namespace Go.Proofs.Ytifkgdmiojnllaa.VM
set_option linter.unusedSectionVars false
set_option linter.unusedVariables false
open Go AM
theorem fld_1(n:Int)(l:List T)(b:Bool) :fldR 1 n l b=((behindR 114 l b).1,n,(behindR 114 l b).2.1,(behindR 114 l b).2.2):=by unfold fldR; simp
theorem fld_2(n:Int)(l:List T)(b:Bool) :fldR 2 n l b=((behindR 114 l b).1,n,(behindR 114 l b).2.1,(behindR 114 l b).2.2):=by unfold fldR; simp
theorem fld_3(n:Int)(l:List T)(b:Bool) :fldR 3 n l b=((behindR 97 l b).1,n,(behindR 97 l b).2.1,(behindR 97 l b).2.2):=by unfold fldR; simp
theorem fld_4(n:Int)(l:List T)(b:Bool) :fldR 4 n l b=(tkN (takeR 2 l b).1,n,(takeR 2 l b).2.1,(takeR 2 l b).2.2):=by unfold fldR; simp
theorem fld_5(n:Int)(l:List T)(b:Bool) :fldR 5 n l b=(0,(signedR l b).1,(signedR l b).2.1,(signedR l b).2.2):=by unfold fldR; simp
theorem fld_o{k:Int}(h1:¬k=1)(h2:¬k=2)(h3:¬k=3)(h4:¬k=4)(h5:¬k=5)(n:Int)(l:List T)(b:Bool) :fldR k n l b=(0,n,l,b):=by unfold fldR; rw [if_neg (by omega),if_neg h3,if_neg h4,if_neg h5]
theorem RH31_4(z:Bool)(l:List T)(b:Bool)(hl:∀y∈l,IsTok y)(op aa bb cc n:Int)(w:ByteArray)(k0 k1 k2:Int) :
  RH31_7_4 J31_6 z l b op 0 bb cc n w k0 k1 k2=RH31_7_3 J31_6 z (fldR k0 n l b).2.2.1 (fldR k0 n l b).2.2.2 op (fldR k0 n l b).1 bb cc (fldR k0 n l b).2.1 w k0 k1 k2:=by
 rw [RH31_7_4]
 by_cases h1:k0=1
 ·rw [decide_eq_true h1,ct]
  subst h1
  rw [fld_1,behind61 z 114 l b hl,callK_some,asT_t,asI_int,consB_cons,asVar_var,consV_cons,asT_t,asL_list,consV_cons,asT_t,asB_bool,endV_nil,endB_nil]
 by_cases h2:k0=2
 ·rw [decide_eq_false h1,cf,decide_eq_true h2,ct]
  subst h2
  rw [fld_2,behind61 z 114 l b hl,callK_some,asT_t,asI_int,consB_cons,asVar_var,consV_cons,asT_t,asL_list,consV_cons,asT_t,asB_bool,endV_nil,endB_nil]
 by_cases h3:k0=3
 ·rw [decide_eq_false h1,cf,decide_eq_false h2,cf,decide_eq_true h3,ct]
  subst h3
  rw [fld_3,behind61 z 97 l b hl,callK_some,asT_t,asI_int,consB_cons,asVar_var,consV_cons,asT_t,asL_list,consV_cons,asT_t,asB_bool,endV_nil,endB_nil]
 by_cases h4:k0=4
 ·rw [decide_eq_false h1,cf,decide_eq_false h2,cf,decide_eq_false h3,cf,decide_eq_true h4,ct]
  subst h4
  obtain ⟨⟨s1,k1,n1,hx⟩,_,_⟩:=takeR_ok 2 l b hl
  rw [fld_4,take30 z 2 l b hl,callK_some,hx]
  unfold tokT
  rw [asT_t,asA_agg,consT_cons,asI_int,consT_cons,asS_str,consT_cons,asI_int,endT_nil,consB_cons,asVar_var,consV_cons,asT_t,asL_list,consV_cons,asT_t,asB_bool,endV_nil,endB_nil]
  rfl
 by_cases h5:k0=5
 ·rw [decide_eq_false h1,cf,decide_eq_false h2,cf,decide_eq_false h3,cf,decide_eq_false h4,cf,decide_eq_true h5,ct]
  subst h5
  rw [fld_5,signed62 z l b hl,callK_some,asT_t,asI_int,consB_cons,asVar_var,consV_cons,asT_t,asL_list,consV_cons,asT_t,asB_bool,endV_nil,endB_nil]
 rw [decide_eq_false h1,cf,decide_eq_false h2,cf,decide_eq_false h3,cf,decide_eq_false h4,cf,decide_eq_false h5,cf,fld_o h1 h2 h3 h4 h5]
theorem RH31_3(z:Bool)(l:List T)(b:Bool)(hl:∀y∈l,IsTok y)(op aa bb cc n:Int)(w:ByteArray)(k0 k1 k2:Int) :
  RH31_7_3 J31_6 z l b op aa 0 cc n w k0 k1 k2=RH31_7_2 J31_6 z (fldR k1 n l b).2.2.1 (fldR k1 n l b).2.2.2 op aa (fldR k1 n l b).1 cc (fldR k1 n l b).2.1 w k0 k1 k2:=by
 rw [RH31_7_3]
 by_cases h1:k1=1
 ·rw [decide_eq_true h1,ct]
  subst h1
  rw [fld_1,behind61 z 114 l b hl,callK_some,asT_t,asI_int,consB_cons,asVar_var,consV_cons,asT_t,asL_list,consV_cons,asT_t,asB_bool,endV_nil,endB_nil]
 by_cases h2:k1=2
 ·rw [decide_eq_false h1,cf,decide_eq_true h2,ct]
  subst h2
  rw [fld_2,behind61 z 114 l b hl,callK_some,asT_t,asI_int,consB_cons,asVar_var,consV_cons,asT_t,asL_list,consV_cons,asT_t,asB_bool,endV_nil,endB_nil]
 by_cases h3:k1=3
 ·rw [decide_eq_false h1,cf,decide_eq_false h2,cf,decide_eq_true h3,ct]
  subst h3
  rw [fld_3,behind61 z 97 l b hl,callK_some,asT_t,asI_int,consB_cons,asVar_var,consV_cons,asT_t,asL_list,consV_cons,asT_t,asB_bool,endV_nil,endB_nil]
 by_cases h4:k1=4
 ·rw [decide_eq_false h1,cf,decide_eq_false h2,cf,decide_eq_false h3,cf,decide_eq_true h4,ct]
  subst h4
  obtain ⟨⟨s1,k3,n1,hx⟩,_,_⟩:=takeR_ok 2 l b hl
  rw [fld_4,take30 z 2 l b hl,callK_some,hx]
  unfold tokT
  rw [asT_t,asA_agg,consT_cons,asI_int,consT_cons,asS_str,consT_cons,asI_int,endT_nil,consB_cons,asVar_var,consV_cons,asT_t,asL_list,consV_cons,asT_t,asB_bool,endV_nil,endB_nil]
  rfl
 by_cases h5:k1=5
 ·rw [decide_eq_false h1,cf,decide_eq_false h2,cf,decide_eq_false h3,cf,decide_eq_false h4,cf,decide_eq_true h5,ct]
  subst h5
  rw [fld_5,signed62 z l b hl,callK_some,asT_t,asI_int,consB_cons,asVar_var,consV_cons,asT_t,asL_list,consV_cons,asT_t,asB_bool,endV_nil,endB_nil]
 rw [decide_eq_false h1,cf,decide_eq_false h2,cf,decide_eq_false h3,cf,decide_eq_false h4,cf,decide_eq_false h5,cf,fld_o h1 h2 h3 h4 h5]
theorem RH31_2(z:Bool)(l:List T)(b:Bool)(hl:∀y∈l,IsTok y)(op aa bb cc n:Int)(w:ByteArray)(k0 k1 k2:Int) :
  RH31_7_2 J31_6 z l b op aa bb 0 n w k0 k1 k2=RH31_7_1 J31_6 z (fldR k2 n l b).2.2.1 (fldR k2 n l b).2.2.2 op aa bb (fldR k2 n l b).1 (fldR k2 n l b).2.1 w k0 k1 k2:=by
 rw [RH31_7_2]
 by_cases h1:k2=1
 ·rw [decide_eq_true h1,ct]
  subst h1
  rw [fld_1,behind61 z 114 l b hl,callK_some,asT_t,asI_int,consB_cons,asVar_var,consV_cons,asT_t,asL_list,consV_cons,asT_t,asB_bool,endV_nil,endB_nil]
 by_cases h2:k2=2
 ·rw [decide_eq_false h1,cf,decide_eq_true h2,ct]
  subst h2
  rw [fld_2,behind61 z 114 l b hl,callK_some,asT_t,asI_int,consB_cons,asVar_var,consV_cons,asT_t,asL_list,consV_cons,asT_t,asB_bool,endV_nil,endB_nil]
 by_cases h3:k2=3
 ·rw [decide_eq_false h1,cf,decide_eq_false h2,cf,decide_eq_true h3,ct]
  subst h3
  rw [fld_3,behind61 z 97 l b hl,callK_some,asT_t,asI_int,consB_cons,asVar_var,consV_cons,asT_t,asL_list,consV_cons,asT_t,asB_bool,endV_nil,endB_nil]
 by_cases h4:k2=4
 ·rw [decide_eq_false h1,cf,decide_eq_false h2,cf,decide_eq_false h3,cf,decide_eq_true h4,ct]
  subst h4
  obtain ⟨⟨s1,k1,n1,hx⟩,_,_⟩:=takeR_ok 2 l b hl
  rw [fld_4,take30 z 2 l b hl,callK_some,hx]
  unfold tokT
  rw [asT_t,asA_agg,consT_cons,asI_int,consT_cons,asS_str,consT_cons,asI_int,endT_nil,consB_cons,asVar_var,consV_cons,asT_t,asL_list,consV_cons,asT_t,asB_bool,endV_nil,endB_nil]
  rfl
 by_cases h5:k2=5
 ·rw [decide_eq_false h1,cf,decide_eq_false h2,cf,decide_eq_false h3,cf,decide_eq_false h4,cf,decide_eq_true h5,ct]
  subst h5
  rw [fld_5,signed62 z l b hl,callK_some,asT_t,asI_int,consB_cons,asVar_var,consV_cons,asT_t,asL_list,consV_cons,asT_t,asB_bool,endV_nil,endB_nil]
 rw [decide_eq_false h1,cf,decide_eq_false h2,cf,decide_eq_false h3,cf,decide_eq_false h4,cf,decide_eq_false h5,cf,fld_o h1 h2 h3 h4 h5]
theorem J31_spec(z:Bool)(l:List T)(b:Bool)(hl:∀y∈l,IsTok y)(op:Int)(w:ByteArray)(s:Sh) :J31_6 z l b op 0 0 0 0 w s.k0 s.k1 s.k2=
  some (.t (insT ⟨op,(fldR s.k0 0 l b).1,(fldR s.k1 (fldR s.k0 0 l b).2.1 (fldR s.k0 0 l b).2.2.1 (fldR s.k0 0 l b).2.2.2).1,(fldR s.k2 (fldR s.k1 (fldR s.k0 0 l b).2.1 (fldR s.k0 0 l b).2.2.1 (fldR s.k0 0 l b).2.2.2).2.1 (fldR s.k1 (fldR s.k0 0 l b).2.1 (fldR s.k0 0 l b).2.2.1 (fldR s.k0 0 l b).2.2.2).2.2.1 (fldR s.k1 (fldR s.k0 0 l b).2.1 (fldR s.k0 0 l b).2.2.1 (fldR s.k0 0 l b).2.2.2).2.2.2).1,(fldR s.k2 (fldR s.k1 (fldR s.k0 0 l b).2.1 (fldR s.k0 0 l b).2.2.1 (fldR s.k0 0 l b).2.2.2).2.1 (fldR s.k1 (fldR s.k0 0 l b).2.1 (fldR s.k0 0 l b).2.2.1 (fldR s.k0 0 l b).2.2.2).2.2.1 (fldR s.k1 (fldR s.k0 0 l b).2.1 (fldR s.k0 0 l b).2.2.1 (fldR s.k0 0 l b).2.2.2).2.2.2).2.1⟩),rdOut z (fldR s.k2 (fldR s.k1 (fldR s.k0 0 l b).2.1 (fldR s.k0 0 l b).2.2.1 (fldR s.k0 0 l b).2.2.2).2.1 (fldR s.k1 (fldR s.k0 0 l b).2.1 (fldR s.k0 0 l b).2.2.1 (fldR s.k0 0 l b).2.2.2).2.2.1 (fldR s.k1 (fldR s.k0 0 l b).2.1 (fldR s.k0 0 l b).2.2.1 (fldR s.k0 0 l b).2.2.2).2.2.2).2.2.1 (fldR s.k2 (fldR s.k1 (fldR s.k0 0 l b).2.1 (fldR s.k0 0 l b).2.2.1 (fldR s.k0 0 l b).2.2.2).2.1 (fldR s.k1 (fldR s.k0 0 l b).2.1 (fldR s.k0 0 l b).2.2.1 (fldR s.k0 0 l b).2.2.2).2.2.1 (fldR s.k1 (fldR s.k0 0 l b).2.1 (fldR s.k0 0 l b).2.2.1 (fldR s.k0 0 l b).2.2.2).2.2.2).2.2.2):=by
 have hx:=fldR_ok s.k0 0 l b hl
 have hy:=fldR_ok s.k1 (fldR s.k0 0 l b).2.1 (fldR s.k0 0 l b).2.2.1 (fldR s.k0 0 l b).2.2.2 hx
 rw [J31_6_eq,RJ31_6,eq39,R39,callK_some,asG_agg,consV_cons,isPtr_ptr,consV_cons,isPtr_ptr,consV_cons,isPtr_ptr,endV_nil,consB_cons,asVar_var]
 rw [consV_cons,asT_t,asI_int,consV_cons,asT_t,asI_int,consV_cons,asT_t,asI_int,consV_cons,asT_t,asI_int,consV_cons,asT_t,asI_int,endV_nil,endB_nil]
 rw [RH31_4 z l b hl _ 0,RH31_3 z _ _ hx _ _ 0,RH31_2 z _ _ hy _ _ _ 0,RH31_7_1]
 rfl
theorem sh_cases(op:Int) :(isOp op=false∧shOf op=sh0)∨(isOp op=true∧shOf op∈shL):=by
 unfold shOf
 cases h:isOp op with
 | false=>exact .inl ⟨rfl,rfl⟩
 | true=>
  right
  refine ⟨rfl, ?_⟩
  unfold isOp at h
  simp only [Bool.and_eq_true,decide_eq_true_eq] at h
  have hlt:op.toNat<shL.length:=by show op.toNat<13; omega
  rw [ct,List.getElem?_eq_getElem hlt]
  exact List.getElem_mem hlt
theorem ins31(z:Bool)(l:List T)(b:Bool)(hl:∀y∈l,IsTok y) :vr 31 0 [.ptr 0 0 0] (rdSt z l b)=some (.t (insT (insR l b).1),rdOut z (insR l b).2.1 (insR l b).2.2):=by
 rw [eq31,R31,take30 z 1 l b hl,callK_some]
 obtain ⟨⟨s,k,n,hx⟩,hl2,_⟩:=takeR_ok 1 l b hl
 have e:tkS (takeR 1 l b).1=s:=by rw [hx]; rfl
 have hi:=index58 s
 have ho:=of38 (opOf s.data.toList)
 unfold insR
 dsimp only
 rw [e,hx]
 unfold tokT
 rw [asT_t,asA_agg,consT_cons,asI_int,consT_cons,asS_str,consT_cons,asI_int,endT_nil,consB_cons,asVar_var,consV_cons,asT_t,asL_list,consV_cons,asT_t,asB_bool,endV_nil,endB_nil,shapes59,callK_some,asT_t,asL_list,endB_nil,hi,callK_some,asT_t,asI_int,consB_cons,asVar_var,consV_cons,asT_t,asS_str,endV_nil,endB_nil,ho,callK_some]
 dsimp only
 generalize shOf (opOf s.data.toList)=sh
 unfold shT
 rw [asTup_tup,consV_cons,asT_t,asA_agg,consT_cons,asS_str,consT_cons,asI_int,consT_cons,asI_int,consT_cons,asI_int,endT_nil,consV_cons,asT_t,asB_bool,endV_nil,endB_nil]
 cases isOp (opOf s.data.toList) with
 | false=>
  rw [bNF,ct,cf]
  exact J31_spec z _ true hl2 _ _ sh
 | true=>
  rw [bNT,cf,ct]
  exact J31_spec z _ _ hl2 _ _ sh
theorem insR_ok(l:List T)(b:Bool)(hl:∀y∈l,IsTok y) :∀y∈(insR l b).2.1,IsTok y:=by
 unfold insR
 dsimp only
 exact fldR_ok _ _ _ _ (fldR_ok _ _ _ _ (fldR_ok _ _ _ _ (takeR_ok 1 l b hl).2.1))
end Go.Proofs.Ytifkgdmiojnllaa.VM
end
section
namespace Go.Proofs.Ytifkgdmiojnllaa.VM
set_option linter.unusedSectionVars false
open Go AM
def lim(r a n k:Int) :Int:=if k=1∨k=2 then r else if k=3 then a else if k=4 then n else 1
def fldOk(v m:Int) :Bool:=decide (0≤v) &&decide (v<m)
def mayB(r a n:Int)(x:Ins) :Bool:=
 isOp x.op &&(fldOk x.a (lim r a n (shOf x.op).k0) &&(fldOk x.b (lim r a n (shOf x.op).k1) &&(fldOk x.c (lim r a n (shOf x.op).k2) &&
  (bif decide ((shOf x.op).k1=5) then decide ((-1000000000000000000)<x.n) &&decide (x.n<1000000000000000000) else decide (x.n=0)))))
def cdT(r a i:Int)(z:Bool)(l:List Ins) :T:= .agg [.int .i64 r, .int .i64 a, .int .i64 i, .list 5 z (l.map insT)]
theorem sh_range(op:Int) :(0≤(shOf op).k0∧(shOf op).k0<6)∧(0≤(shOf op).k1∧(shOf op).k1<6)∧(0≤(shOf op).k2∧(shOf op).k2<6):=by
 have h:shOf op=sh0∨shOf op∈shL:=by
  rcases sh_cases op with h | h
  ·exact .inl h.2
  ·exact .inr h.2
 generalize shOf op=s at h ⊢
 rcases h with rfl | h
 ·simp [sh0]
 ·simp only [shL,List.mem_cons,List.not_mem_nil,or_false] at h
  rcases h with rfl | rfl | rfl | rfl | rfl | rfl | rfl | rfl | rfl | rfl | rfl | rfl | rfl <;>simp
theorem lim_at{R:Type}(r a n k:Int)(h:0≤k∧k<6)(K:T→Option R) :(needC (decide (0≤k) &&decide (k<(6:Int))) fun _=>getT ([(.int .i64 1),(.int .i64 r),(.int .i64 r),(.int .i64 a),(.int .i64 n),(.int .i64 1)]) ((0+(k).toNat*1)) K)=K (.int .i64 (lim r a n k)):=by
 rw [decide_eq_true h.1,decide_eq_true h.2,bTA,needC_t]
 have:k=0∨k=1∨k=2∨k=3∨k=4∨k=5:=by omega
 rcases this with rfl | rfl | rfl | rfl | rfl | rfl <;>rfl
theorem may37(x:Ins)(r a i:Int)(z:Bool)(l:List Ins) :vr 37 0 [.t (insT x), .t (cdT r a i z l)] e0=some (.t (.bool (mayB r a (l.length:Int) x)),e0):=by
 unfold insT cdT
 rw [eq37,R37,of38,callK_some]
 obtain ⟨h0,h1,h2⟩:=sh_range x.op
 unfold mayB
 generalize shOf x.op=s at h0 h1 h2 ⊢
 unfold shT
 have hl:((l.map insT).length:Int)=(l.length:Int):=by rw [List.length_map]
 rw [asTup_tup,consV_cons,asT_t,asA_agg,consT_cons,asS_str,consT_cons,asI_int,consT_cons,asI_int,consT_cons,asI_int,endT_nil,consV_cons,asT_t,asB_bool,endV_nil,endB_nil]
 rw [eq39,R39,callK_some,asG_agg,consV_cons,isPtr_ptr,consV_cons,isPtr_ptr,consV_cons,isPtr_ptr,endV_nil,consB_cons,asVar_var,consV_cons,asT_t,asI_int,consV_cons,asT_t,asI_int,consV_cons,asT_t,asI_int,consV_cons,asT_t,asI_int,consV_cons,asT_t,asI_int,endV_nil,endB_nil]
 simp only [lim_at _ _ _ _ h0,lim_at _ _ _ _ h1,lim_at _ _ _ _ h2,asI_int,hl]
 unfold fldOk
 cases isOp x.op with
 | false=>rw [cf,bFA]; cases decide (s.k1=5) <;>rfl
 | true=>
 rw [ct,bTA]
 cases decide (0≤x.a) with
 | false=>rw [cf,bFA,bFA]; cases decide (s.k1=5) <;>rfl
 | true=>
 rw [ct,bTA]
 cases decide (x.a<lim r a (l.length:Int) s.k0) with
 | false=>rw [cf,bFA]; cases decide (s.k1=5) <;>rfl
 | true=>
 rw [ct,bTA]
 cases decide (0≤x.b) with
 | false=>rw [cf,bFA,bFA]; cases decide (s.k1=5) <;>rfl
 | true=>
 rw [ct,bTA]
 cases decide (x.b<lim r a (l.length:Int) s.k1) with
 | false=>rw [cf,bFA]; cases decide (s.k1=5) <;>rfl
 | true=>
 rw [ct,bTA]
 cases decide (0≤x.c) with
 | false=>rw [cf,bFA,bFA]; cases decide (s.k1=5) <;>rfl
 | true=>
 rw [ct,bTA]
 cases decide (s.k1=5) with
 | false=>
  rw [bNF,ct,cf]
  cases decide (x.c<lim r a (l.length:Int) s.k2) <;>rfl
 | true=>
  rw [bNT,cf,ct]
  cases decide (x.c<lim r a (l.length:Int) s.k2) <;>cases decide ((-1000000000000000000)<x.n) <;>rfl
def badIx(f:Ins→Bool) :List Ins→Nat→Int
 | [],_=> -1
 | x::l,i=>bif f x then badIx f l (i+1) else (i:Int)
theorem badIx_all(f:Ins→Bool) :∀(l:List Ins) (i:Nat),decide (0≤badIx f l i)= !l.all f
 | [],i=>rfl
 | x::l,i=>by
  unfold badIx
  rw [List.all_cons]
  cases f x with
  | true=>rw [ct,badIx_all f l (i+1),bTA]
  | false=>rw [cf,bFA,decide_eq_true (by omega)]; rfl
theorem ins_at{R:Type}{l:List Ins}{i:Nat}(h:i<l.length)(K:T→Option R) :getT (l.map insT) i K=K (insT l[i]):=by
 refine getT_at ?_ K
 rw [List.getElem?_map,List.getElem?_eq_getElem h]
 rfl
theorem L68_spec(r a i:Int)(z z2:Bool)(c l:List Ins)(hb:l.length≤9223372036854775806) :∀(m k:Nat),m+k=l.length→
  L68_2 z (l.map insT) ((l.map insT).length:Int) (k:Int) r a i z2 (c.map insT)=some (.t (.int .i64 (badIx (mayB r a (c.length:Int)) (l.drop k) k)),⟨[(0, .var [.t (.int .i64 r), .t (.int .i64 a), .t (.int .i64 i), .t (.list 5 z2 (c.map insT))])],[500]⟩)
 | 0,k,h=>by
  have d:decide ((k:Int)<((l.map insT).length:Int))=false:=decide_eq_false (by rw [List.length_map]; omega)
  rw [L68_2_eq,RL68_2,d,cf,List.drop_of_length_le (by omega)]
  rfl
 | m+1,k,h=>by
  have d:decide ((k:Int)<((l.map insT).length:Int))=true:=decide_eq_true (by rw [List.length_map]; omega)
  have n0:decide ((0:Int)≤(k:Int))=true:=decide_eq_true (by omega)
  have hw:IntKind.i64.wrap ((k:Int)+1)=((k+1:Nat):Int):=by rw [wrap64 (by omega) (by omega)]; simp
  have hlt:k<l.length:=by omega
  have hm:=may37 l[k] r a i z2 c
  unfold insT cdT at hm
  rw [L68_2_eq,RL68_2,d,ct,needC_true n0,Int.toNat_natCast,ins_at hlt,hw,List.drop_eq_getElem_cons hlt]
  have e:insT l[k]= .agg [.int .i64 l[k].op, .int .i64 l[k].a, .int .i64 l[k].b, .int .i64 l[k].c, .int .i64 l[k].n]:=rfl
  rw [e,asA_agg,consT_cons,asI_int,consT_cons,asI_int,consT_cons,asI_int,consT_cons,asI_int,consT_cons,asI_int,endT_nil,eq36,R36]
  have hm2:vr 37 0 [(.t (.agg [(.int .i64 l[k].op),(.int .i64 l[k].a),(.int .i64 l[k].b),(.int .i64 l[k].c),(.int .i64 l[k].n)])),(.t (.agg [(.int .i64 r),(.int .i64 a),(.int .i64 i),(.list 5 z2 (c.map insT))]))] ⟨[],[]⟩=some (.t (.bool (mayB r a (c.length:Int) l[k])),⟨[],[]⟩):=hm
  rw [hm2,callK_some,asT_t,asB_bool,endB_nil,callK_some,asT_t,asB_bool,consB_cons,asVar_var,consV_cons,asT_t,asI_int,consV_cons,asT_t,asI_int,consV_cons,asT_t,asI_int,consV_cons,asT_t,asL_list,endV_nil,endB_nil]
  unfold badIx
  cases mayB r a (c.length:Int) l[k] with
  | true=>
   rw [bNT,cf,ct]
   exact L68_spec r a i z z2 c l hb m (k+1) (by omega)
  | false=>rw [bNF,ct,cf]
def checkB(r a i:Int)(l:List Ins) :Bool:=
 decide (0≤r) &&(decide (r≤128) &&(decide (0≤a) &&(decide (a≤128) &&(decide (0≤i) &&(decide (i≤a) &&(!decide (l.length=0) &&(decide (l.length≤4096) &&(l.all (mayB r a (l.length:Int)) &&
  (match l.getLast? with | some x=>decide (x.op=0) || decide (x.op=10) | none=>false)))))))))
theorem cont35(r a i:Int)(z z2:Bool)(c l:List Ins)(hb:l.length≤9223372036854775806) :vr 35 0 [.t (.list 5 z (l.map insT)), .fn 36 [] [.ptr 0 0 0]] ⟨[(0, .var [.t (.int .i64 r), .t (.int .i64 a), .t (.int .i64 i), .t (.list 5 z2 (c.map insT))])],[]⟩=
  some (.t (.bool (!l.all (mayB r a (c.length:Int)))),⟨[(0, .var [.t (.int .i64 r), .t (.int .i64 a), .t (.int .i64 i), .t (.list 5 z2 (c.map insT))])],[500]⟩):=by
 rw [eq35,R35,eq68,R68]
 have:=L68_spec r a i z z2 c l hb l.length 0 (by omega)
 have h0:((0:Nat):Int)=0:=rfl
 rw [h0] at this
 rw [this,callK_some,asT_t,asI_int,consB_cons,asVar_var,consV_cons,asT_t,asI_int,consV_cons,asT_t,asI_int,consV_cons,asT_t,asI_int,consV_cons,asT_t,asL_list,endV_nil,endB_nil,badIx_all]
 rfl
theorem check14(r a i:Int)(z:Bool)(l:List Ins) :vr 14 0 [.t (cdT r a i z l)] e0=some (.t (.int .i64 (bif checkB r a i l then 0 else 1)),e0):=by
 unfold cdT
 rw [eq14,R14]
 unfold checkB
 cases decide (0≤r) with
 | false=>rfl
 | true=>
 rw [ct,bTA]
 cases decide (r≤128) with
 | false=>rfl
 | true=>
 rw [ct,bTA]
 cases decide (0≤a) with
 | false=>rfl
 | true=>
 rw [ct,bTA]
 cases decide (a≤128) with
 | false=>rfl
 | true=>
 rw [ct,bTA]
 cases decide (0≤i) with
 | false=>rfl
 | true=>
 rw [ct,bTA]
 cases decide (i≤a) with
 | false=>rfl
 | true=>
 have hl:((l.map insT).length:Int)=(l.length:Int):=by rw [List.length_map]
 have e1:decide ((l.length:Int)=0)=decide (l.length=0):=decide_eq_decide.2 (by omega)
 have e2:decide (4096<(l.length:Int))= !decide (l.length≤4096):=by rw [←decide_not]; exact decide_eq_decide.2 (by omega)
 rw [bNT,cf,bTA,hl,e1,e2]
 by_cases h0:l.length=0
 ·rw [decide_eq_true h0]; rfl
 ·rw [decide_eq_false h0,cf,bNF,bTA]
  by_cases h1:l.length≤4096
  ·have hc:=cont35 r a i z z l l (by omega)
   rw [decide_eq_true h1,bNT,cf,bTA,hc,callK_some,asT_t,asB_bool,consB_cons,asVar_var,consV_cons,asT_t,asI_int,consV_cons,asT_t,asI_int,consV_cons,asT_t,asI_int,consV_cons,asT_t,asL_list,endV_nil,endB_nil]
   cases l.all (mayB r a (l.length:Int)) with
   | false=>rfl
   | true=>
    have hw:IntKind.i64.wrap ((l.length:Int) - 1)=((l.length - 1:Nat):Int):=by rw [wrap64 (by omega) (by omega)]; omega
    have hlt:l.length - 1<l.length:=by omega
    have hg:l.getLast? =some l[l.length - 1]:=by rw [List.getLast?_eq_getElem?,List.getElem?_eq_getElem hlt]
    have e:insT l[l.length - 1]= .agg [.int .i64 l[l.length - 1].op, .int .i64 l[l.length - 1].a, .int .i64 l[l.length - 1].b, .int .i64 l[l.length - 1].c, .int .i64 l[l.length - 1].n]:=rfl
    rw [bNT,cf,bTA,hl,hw,needC_true (decide_eq_true (by omega)),Int.toNat_natCast,ins_at hlt,hg,e,asA_agg,consT_cons,asI_int,consT_cons,asI_int,consT_cons,asI_int,consT_cons,asI_int,consT_cons,asI_int,endT_nil]
    dsimp only
    cases decide (l[l.length - 1].op=0) with
    | true=>rfl
    | false=>cases decide (l[l.length - 1].op=10) <;>rfl
  ·rw [decide_eq_false h1]; rfl
end Go.Proofs.Ytifkgdmiojnllaa.VM
end
section
namespace Go.Proofs.Ytifkgdmiojnllaa.VM
set_option linter.unusedSectionVars false
open Go AM
abbrev code0 :T:= .agg [.int .i64 0, .int .i64 0, .int .i64 0, .list 5 false []]
def headR(l:List T) :(Int×Int×Int)×List T×Bool:=
 let t1:=takeR 1 l false
 let t2:=takeR 2 t1.2.1 (!decide ((tkS t1.1).data.toList=[99,111,100,101]))
 let t3:=takeR 2 t2.2.1 t2.2.2
 let t4:=takeR 2 t3.2.1 t3.2.2
 ((tkN t2.1,tkN t3.1,tkN t4.1),t4.2.1,t4.2.2)
inductive PR where
 | bad (k:Nat)
 | ok (r a i:Int) (l:List Ins)
def goP :List (List T)→Nat→Int→Int→Int→List Ins→PR
 | [],_,r,a,i,acc=> .ok r a i acc
 | l::ls,0,_,_,_,acc=>bif (headR l).2.2 || !(headR l).2.1.isEmpty then .bad 0 else goP ls 1 (headR l).1.1 (headR l).1.2.1 (headR l).1.2.2 acc
 | l::ls,k+1,r,a,i,acc=>bif (insR l false).2.2 || !(insR l false).2.1.isEmpty then .bad (k+1) else goP ls (k+2) r a i (acc++[(insR l false).1])
def parV(n:Nat) :PR→V
 | .bad k=> .tup [.t code0, .t (.int .i64 (k:Int)), .t (.int .i64 6)]
 | .ok r a i l=>bif checkB r a i l then .tup [.t (cdT r a i (!l.isEmpty) l), .t (.int .i64 (n:Int)), .t (.int .i64 0)] else .tup [.t code0, .t (.int .i64 0), .t (.int .i64 1)]
theorem J10_17_spec(lz:Bool)(ls:List T)(k:Int)(tz:Bool)(t:List T)(t31:Int)(r a i:Int)(mz:Bool)(m:List T)(nz:Bool)(l:List T)(b:Bool) :
  J10_17 lz ls k tz t t31 k r a i mz m nz l b=bif b || !l.isEmpty then some (.tup [.t code0, .t (.int .i64 k), .t (.int .i64 6)],e0) else L10_8 lz ls tz t t31 (IntKind.i64.wrap (k+1)) r a i mz m:=by
 rw [J10_17_eq,RJ10_17]
 have h:decide (0<(l.length:Int))= !l.isEmpty:=by cases l <;>simp
 rw [h]
 cases b with
 | true=>rfl
 | false=>
  rw [cf,bFO]
theorem toks_not{l:List T}{s:ByteArray}{k n:Int} :tkN (tokT s k n)=n∧tkS (tokT s k n)=s:=⟨rfl,rfl⟩
theorem L10_spec(lz tz:Bool)(r0 r:List T)(ls:List (List T))(hr:IsLines r ls)(hl:∀p∈ls,∀y∈p,IsTok y)(hb:ls.length≤100000) :∀(m k:Nat) (rr a i:Int) (acc:List Ins),m+k=ls.length→acc.length≤k→
  L10_8 lz r0 tz r (r.length:Int) (k:Int) rr a i (!acc.isEmpty) (acc.map insT)=some (parV r0.length (goP (ls.drop k) k rr a i acc),e0)
 | 0,k,rr,a,i,acc,h,ha=>by
  have hlen:=hr.length
  have d:decide ((k:Int)<(r.length:Int))=false:=decide_eq_false (by omega)
  rw [L10_8_eq,RL10_8,d,cf,List.drop_of_length_le (by omega)]
  have hc:vr 14 0 [(.t (.agg [(.int .i64 rr),(.int .i64 a),(.int .i64 i),(.list 5 (!acc.isEmpty) (acc.map insT))]))] ⟨[],[]⟩=some (.t (.int .i64 (bif checkB rr a i acc then 0 else 1)),e0):=check14 rr a i (!acc.isEmpty) acc
  rw [hc,callK_some,asT_t,asI_int,endB_nil]
  unfold goP parV
  dsimp only
  cases checkB rr a i acc with
  | true=>rfl
  | false=>rfl
 | m+1,k,rr,a,i,acc,h,ha=>by
  have hlen:=hr.length
  have d:decide ((k:Int)<(r.length:Int))=true:=decide_eq_true (by omega)
  have n0:decide ((0:Int)≤(k:Int))=true:=decide_eq_true (by omega)
  have hw:IntKind.i64.wrap ((k:Int)+1)=((k+1:Nat):Int):=by rw [wrap64 (by omega) (by omega)]; simp
  have hlt:k<ls.length:=by omega
  obtain ⟨l,hli,z,hz⟩:=hr.get (List.getElem?_eq_getElem (by omega:k<r.length))
  have hri:r[k]? =some (.list 3 z l):=by rw [List.getElem?_eq_getElem (by omega),hz]
  have hd:ls.drop k=l::ls.drop (k+1):=by
   obtain ⟨h1,h2⟩:=List.getElem?_eq_some_iff.1 hli
   rw [List.drop_eq_getElem_cons h1,h2]
  have hlt2:∀y∈l,IsTok y:=hl l (List.mem_of_getElem? hli)
  rw [L10_8_eq,RL10_8,d,ct,needC_true n0,Int.toNat_natCast,getT_at hri,asL_list,hd]
  cases k with
  | zero=>
   have hacc:acc=[]:=List.length_eq_zero_iff.1 (by omega)
   subst hacc
   have d0:decide (((0:Nat):Int)=0)=true:=rfl
   have t1:=take30 z 1 l false hlt2
   obtain ⟨⟨s1,k1,n1,hx1⟩,q1,_⟩:=takeR_ok 1 l false hlt2
   have hgo:goP (l::ls.drop (0+1)) 0 rr a i []=bif (headR l).2.2 || !(headR l).2.1.isEmpty then .bad 0 else goP (ls.drop 1) 1 (headR l).1.1 (headR l).1.2.1 (headR l).1.2.2 []:=rfl
   rw [d0,ct,t1,callK_some,hx1,hgo]
   unfold headR
   dsimp only
   rw [hx1]
   have e1:tkS (tokT s1 k1 n1)=s1:=rfl
   have e2:decide (s1=⟨#[99,111,100,101]⟩)=decide (s1.data.toList=[99,111,100,101]):=str_eq s1 [99,111,100,101]
   rw [e1]
   generalize hbb:(!decide (s1.data.toList=[99,111,100,101]))=bb
   have t2:=take30 z 2 (takeR 1 l false).2.1 bb q1
   obtain ⟨⟨s2,k2,n2,hx2⟩,q2,_⟩:=takeR_ok 2 (takeR 1 l false).2.1 bb q1
   have t3:=take30 z 2 (takeR 2 (takeR 1 l false).2.1 bb).2.1 (takeR 2 (takeR 1 l false).2.1 bb).2.2 q2
   obtain ⟨⟨s3,k3,n3,hx3⟩,q3,_⟩:=takeR_ok 2 (takeR 2 (takeR 1 l false).2.1 bb).2.1 (takeR 2 (takeR 1 l false).2.1 bb).2.2 q2
   have t4:=take30 z 2 _ (takeR 2 (takeR 2 (takeR 1 l false).2.1 bb).2.1 (takeR 2 (takeR 1 l false).2.1 bb).2.2).2.2 q3
   obtain ⟨⟨s4,k4,n4,hx4⟩,q4,_⟩:=takeR_ok 2 _ (takeR 2 (takeR 2 (takeR 1 l false).2.1 bb).2.1 (takeR 2 (takeR 1 l false).2.1 bb).2.2).2.2 q3
   have f2:tkN (takeR 2 (takeR 1 l false).2.1 bb).1=n2:=by rw [hx2]; rfl
   have f3:tkN (takeR 2 (takeR 2 (takeR 1 l false).2.1 bb).2.1 (takeR 2 (takeR 1 l false).2.1 bb).2.2).1=n3:=by rw [hx3]; rfl
   rw [f2,f3,hx4]
   unfold tokT at hx2 hx3 hx4 ⊢
   have f4:tkN (.agg [.int .i64 k4, .str s4, .int .i64 n4])=n4:=rfl
   rw [f4]
   rw [asT_t,asA_agg,consT_cons,asI_int,consT_cons,asS_str,consT_cons,asI_int,endT_nil,consB_cons,asVar_var,consV_cons,asT_t,asL_list,consV_cons,asT_t,asB_bool,endV_nil,endB_nil,e2,hbb,t2,callK_some,hx2]
   rw [asT_t,asA_agg,consT_cons,asI_int,consT_cons,asS_str,consT_cons,asI_int,endT_nil,consB_cons,asVar_var,consV_cons,asT_t,asL_list,consV_cons,asT_t,asB_bool,endV_nil,endB_nil,t3,callK_some,hx3]
   rw [asT_t,asA_agg,consT_cons,asI_int,consT_cons,asS_str,consT_cons,asI_int,endT_nil,consB_cons,asVar_var,consV_cons,asT_t,asL_list,consV_cons,asT_t,asB_bool,endV_nil,endB_nil,t4,callK_some,hx4]
   rw [asT_t,asA_agg,consT_cons,asI_int,consT_cons,asS_str,consT_cons,asI_int,endT_nil,consB_cons,asVar_var,consV_cons,asT_t,asL_list,consV_cons,asT_t,asB_bool,endV_nil,endB_nil,J10_17_spec,hw]
   generalize (takeR 2 (takeR 2 (takeR 2 (takeR 1 l false).2.1 bb).2.1 (takeR 2 (takeR 1 l false).2.1 bb).2.2).2.1 (takeR 2 (takeR 2 (takeR 1 l false).2.1 bb).2.1 (takeR 2 (takeR 1 l false).2.1 bb).2.2).2.2)=fin
   cases fin.2.2 || !fin.2.1.isEmpty with
   | true=>rfl
   | false=>
    rw [cf,cf]
    exact L10_spec lz tz r0 r ls hr hl hb m 1 n2 n3 n4 [] (by omega) (by simp)
  | succ k=>
   have d0:decide (((k+1:Nat):Int)=0)=false:=decide_eq_false (by omega)
   have ti:=ins31 z l false hlt2
   have hgo:goP (l::ls.drop (k+1+1)) (k+1) rr a i acc=bif (insR l false).2.2 || !(insR l false).2.1.isEmpty then .bad (k+1) else goP (ls.drop (k+2)) (k+2) rr a i (acc++[(insR l false).1]):=rfl
   have e:insT (insR l false).1= .agg [.int .i64 (insR l false).1.op, .int .i64 (insR l false).1.a, .int .i64 (insR l false).1.b, .int .i64 (insR l false).1.c, .int .i64 (insR l false).1.n]:=rfl
   have n1:(decide (((acc.map insT).length+1)*(40+1)≤70368744177664) &&decide (40≤1048576))=true:=by rw [decide_eq_true (by rw [List.length_map]; omega)]; rfl
   rw [d0,cf,ti,callK_some,hgo,e,asT_t,asA_agg,consT_cons,asI_int,consT_cons,asI_int,consT_cons,asI_int,consT_cons,asI_int,consT_cons,asI_int,endT_nil,consB_cons,asVar_var,consV_cons,asT_t,asL_list,consV_cons,asT_t,asB_bool,endV_nil,endB_nil,needC_true n1,J10_17_spec,hw]
   cases (insR l false).2.2 || !(insR l false).2.1.isEmpty with
   | true=>rfl
   | false=>
    rw [cf,cf]
    have ih:=L10_spec lz tz r0 r ls hr hl hb m (k+1+1) rr a i (acc++[(insR l false).1]) (by omega) (by simp; omega)
    have e3:(!(acc++[(insR l false).1]).isEmpty)=((!acc.isEmpty) || true):=by cases acc <;>rfl
    rw [e3,List.map_append] at ih
    exact ih
def parseOf(s:ByteArray) :V:=
 bif decide (65536<s.size) then .tup [.t code0, .t (.int .i64 0), .t (.int .i64 2)] else
 match cutS (s.size+1) s.data.toList 0 false [] with
 | .err p=> .tup [.t code0, .t (.int .i64 (p:Int)), .t (.int .i64 6)]
 | .ok out=>bif decide (4096<out.length) then .tup [.t code0, .t (.int .i64 0), .t (.int .i64 2)] else
  bif out.isEmpty then .tup [.t code0, .t (.int .i64 0), .t (.int .i64 6)] else parV (splitL out).length (goP (splitL out) 0 0 0 0 [])
theorem parse10(s:ByteArray) :vr 10 0 [.t (.str s)] e0=some (parseOf s,e0):=by
 rw [eq10,R10,cut12,callK_some]
 unfold cutOf parseOf
 cases decide (65536<s.size) with
 | true=>rfl
 | false=>
  rw [cf,cf]
  cases hr:cutS (s.size+1) s.data.toList 0 false [] with
  | err p=>rfl
  | ok out=>
   unfold cutV
   dsimp only
   by_cases hn:4096<out.length
   ·rw [decide_eq_true hn]; rfl
   ·rw [decide_eq_false hn,cf,cf]
    have ht:∀y∈out,IsTok y:=cutS_tok _ _ _ _ _ (by simp) _ hr
    obtain ⟨zz,r,h1,h2⟩:=lines22 (!out.isEmpty) out (fun h=>by cases out <;>simp_all) ht (by omega)
    rw [asTup_tup,consV_cons,asT_t,asL_list,consV_cons,asT_t,asI_int,consV_cons,asT_t,asI_int,endV_nil,endB_nil]
    have d0:decide ((0:Int)=0)=true:=rfl
    rw [d0,bNT,cf,h1,callK_some,asT_t,asL_list,endB_nil]
    have hlen:=h2.length
    by_cases he:out=[]
    ·rw [if_pos he] at hlen
     have:r=[]:=List.length_eq_zero_iff.1 (by simpa using hlen)
     subst this
     subst he
     rfl
    ·rw [if_neg he] at h2 hlen
     have hne:=splitL_ne out
     have hpos:0<(splitL out).length:=List.length_pos_iff.2 hne
     have hle:=splitL_len out
     have e1:out.isEmpty=false:=by cases out with | nil=>exact absurd rfl he | cons x l=>rfl
     rw [decide_eq_false (by omega),cf,e1,cf]
     have:=L10_spec zz zz r r (splitL out) h2 (fun p hp y hy=>ht y (splitL_mem out p hp y hy).1) (by omega) (splitL out).length 0 0 0 0 [] (by omega) (by simp)
     rw [List.drop_zero] at this
     rw [←hlen]
     exact this
end Go.Proofs.Ytifkgdmiojnllaa.VM
end
