/- Merged: Jb1 Je1 Je2 Je3. Conditions: none. -/
import Derived.Test.YtpfploolkmcalaaLx
set_option linter.all false
section
namespace Go.Proofs.Ytpfploolkmcalaa.VM
set_option linter.unusedSectionVars false
open Go AM
set_option linter.unusedVariables false
set_option linter.unusedSimpArgs false
inductive CutE where
 | err (at_:Nat)
 | ok (line:Bool) (out:List T)
def stepN(l:List UInt8) :Nat:=
 match l with
 | []=>0
 | b::t=>bif decide (b=10) then 1 else bif decide (b=32) || decide (b=9) then 1 else bif decide (b=35) then skipC (b::t) else bif isL b || isD b then runL (b::t) else 1
def stepO(l:List UInt8)(line:Bool)(out:List T) :Option (Bool×List T):=
 match l with
 | []=>some (line,out)
 | b::t=>bif decide (b=10) then some (true,out) else bif decide (b=32) || decide (b=9) then some (line,out) else bif decide (b=35) then some (line,out)
  else match tok ((b::t).take (stepN (b::t))) with
   | none=>none
   | some (k,v)=>some (false,(bif line && !out.isEmpty then out++[lineT] else out)++[tokT ⟨⟨(b::t).take (stepN (b::t))⟩⟩ k v])
def cutE :Nat→List UInt8→Nat→Bool→List T→CutE
 | 0,_,pos,_,_=> .err pos
 | f+1,l,pos,line,out=>match l with
  | []=> .ok line out
  | b::t=>match stepO (b::t) line out with
   | none=> .err pos
   | some (line',out')=>cutE f ((b::t).drop (stepN (b::t))) (pos+stepN (b::t)) line' out'
def CutE.toR :CutE→CutR
 | .err p=> .err p
 | .ok _ o=> .ok o
theorem cutE_toR :∀(f:Nat) (l:List UInt8) (pos:Nat) (line:Bool) (out:List T),cutS f l pos line out=(cutE f l pos line out).toR
 | 0,l,pos,line,out=>rfl
 | f+1,[],pos,line,out=>rfl
 | f+1,b::t,pos,line,out=>by
  have ih:=cutE_toR f
  unfold cutS cutE stepO stepN
  dsimp only
  cases h10:decide (b=10) with
  | true=>simp only [cond_true]; rw [ih]; rfl
  | false=>
   cases hb:decide (b=32) || decide (b=9) with
   | true=>simp only [cond_true,cond_false]; rw [ih]; rfl
   | false=>
    cases h35:decide (b=35) with
    | true=>simp only [cond_true,cond_false]; rw [ih]
    | false=>
     simp only [cond_false]
     cases tok ((b::t).take (bif isL b || isD b then runL (b::t) else 1)) with
     | none=>rfl
     | some kv=>obtain ⟨k,v⟩:=kv; simp only []; rw [ih]
theorem stepN_pos(b:UInt8)(t:List UInt8) :0<stepN (b::t):=by
 unfold stepN
 dsimp only
 cases h10:decide (b=10) with
 | true=>simp
 | false=>
  cases hb:decide (b=32) || decide (b=9) with
  | true=>simp
  | false=>
   cases h35:decide (b=35) with
   | true=>simp only [cond_true,cond_false]; unfold skipC; rw [h10]; simp
   | false=>
    cases hl:isL b || isD b with
    | true=>simp only [cond_true,cond_false]; exact runL_pos hl
    | false=>simp
theorem stepN_le(l:List UInt8) :stepN l≤l.length:=by
 cases l with
 | nil=>exact Nat.le_refl _
 | cons b t=>
  unfold stepN
  dsimp only
  have h1:=skipC_le (b::t)
  have h2:=runL_le (b::t)
  cases decide (b=10) <;>cases decide (b=32) || decide (b=9) <;>cases decide (b=35) <;>cases isL b || isD b <;>simp only [cond_true,cond_false] <;>first | omega | (simp only [List.length_cons]; omega)
theorem cutE_fuel :∀(f g:Nat) (l:List UInt8) (pos:Nat) (line:Bool) (out:List T),l.length<f→l.length<g→cutE f l pos line out=cutE g l pos line out
 | 0,g,l,pos,line,out,h,_=>by omega
 | f+1,0,l,pos,line,out,_,h=>by omega
 | f+1,g+1,[],pos,line,out,_,_=>rfl
 | f+1,g+1,b::t,pos,line,out,hf,hg=>by
  have hp:=stepN_pos b t
  have hl:((b::t).drop (stepN (b::t))).length<(b::t).length:=by rw [List.length_drop,List.length_cons]; omega
  unfold cutE
  dsimp only
  cases stepO (b::t) line out with
  | none=>rfl
  | some r=>obtain ⟨l',o'⟩:=r; dsimp only; exact cutE_fuel f g _ _ _ _ (by omega) (by omega)
theorem cutE_step(f:Nat)(b:UInt8)(t:List UInt8)(pos:Nat)(line:Bool)(out:List T)(hf:(b::t).length<f) :
  cutE f (b::t) pos line out=match stepO (b::t) line out with
   | none=> .err pos
   | some (line',out')=>cutE f ((b::t).drop (stepN (b::t))) (pos+stepN (b::t)) line' out':=by
 obtain ⟨f,rfl⟩:∃g,f=g+1:=⟨f - 1,by omega⟩
 have hp:=stepN_pos b t
 have hl:((b::t).drop (stepN (b::t))).length<(b::t).length:=by rw [List.length_drop,List.length_cons]; omega
 rw [cutE]
 cases stepO (b::t) line out with
 | none=>rfl
 | some r=>obtain ⟨l',o'⟩:=r; dsimp only; exact cutE_fuel f (f+1) _ _ _ _ (by omega) (by omega)
theorem cutE_nil(f:Nat)(pos:Nat)(line:Bool)(out:List T)(hf:0<f) :cutE f [] pos line out= .ok line out:=by
 obtain ⟨f,rfl⟩:∃g,f=g+1:=⟨f - 1,by omega⟩
 rfl
theorem skipC_app :∀(l m:List UInt8),skipC (l++10::m)=skipC l
 | [],m=>by unfold skipC; rfl
 | b::l,m=>by
  have ih:=skipC_app l m
  rw [List.cons_append]
  unfold skipC
  rw [ih]
theorem runL_app :∀(l m:List UInt8),runL (l++10::m)=runL l
 | [],m=>by unfold runL; rfl
 | b::l,m=>by
  have ih:=runL_app l m
  rw [List.cons_append]
  unfold runL
  rw [ih]
theorem skipC_take :∀(l:List UInt8) (k:Nat),skipC l≤k→skipC (l.take k)=skipC l
 | [],k,h=>by simp [skipC]
 | b::l,0,h=>by
  unfold skipC at h
  cases hb:decide (b=10) <;>rw [hb] at h <;>simp at h
  unfold skipC; rw [hb]; rfl
 | b::l,k+1,h=>by
  rw [List.take_succ_cons]
  unfold skipC at h ⊢
  cases hb:decide (b=10) with
  | true=>rfl
  | false=>
   rw [hb] at h
   simp only [cond_false] at h ⊢
   rw [skipC_take l k (by omega)]
theorem runL_take :∀(l:List UInt8) (k:Nat),runL l≤k→runL (l.take k)=runL l
 | [],k,h=>by simp [runL]
 | b::l,0,h=>by
  rw [List.take_zero]
  have:runL (b::l)=0:=by omega
  rw [this]; rfl
 | b::l,k+1,h=>by
  rw [List.take_succ_cons,runL_cons,runL_cons]
  rw [runL_cons] at h
  cases hb:isL b || isD b with
  | false=>rfl
  | true=>
   rw [hb] at h
   simp only [cond_true] at h ⊢
   rw [runL_take l k (by omega)]
theorem stepN_app(b:UInt8)(t m:List UInt8) :stepN (b::(t++10::m))=stepN (b::t):=by
 have h1:=skipC_app (b::t) m
 have h2:=runL_app (b::t) m
 rw [List.cons_append] at h1 h2
 unfold stepN
 dsimp only
 rw [h1,h2]
theorem stepO_app(b:UInt8)(t m:List UInt8)(line:Bool)(out:List T) :stepO (b::(t++10::m)) line out=stepO (b::t) line out:=by
 have h:=stepN_le (b::t)
 have ht:(b::(t++10::m)).take (stepN (b::t))=(b::t).take (stepN (b::t)):=by
  rw [←List.cons_append,List.take_append_of_le_length h]
 unfold stepO
 dsimp only
 rw [stepN_app,ht]
theorem stepN_take(b:UInt8)(t:List UInt8)(k:Nat)(h:stepN (b::t)≤k+1) :stepN (b::t.take k)=stepN (b::t):=by
 have h1:=skipC_take (b::t) (k+1)
 have h2:=runL_take (b::t) (k+1)
 rw [List.take_succ_cons] at h1 h2
 unfold stepN at h ⊢
 dsimp only at h ⊢
 cases h10:decide (b=10) with
 | true=>rfl
 | false=>
  cases hb:decide (b=32) || decide (b=9) with
  | true=>rfl
  | false=>
   cases h35:decide (b=35) with
   | true=>
    rw [h10,hb,h35] at h
    simp only [cond_true,cond_false] at h ⊢
    exact h1 h
   | false=>
    cases hl:isL b || isD b with
    | true=>
     rw [h10,hb,h35,hl] at h
     simp only [cond_true,cond_false] at h ⊢
     exact h2 h
    | false=>rfl
theorem stepO_take(b:UInt8)(t:List UInt8)(k:Nat)(line:Bool)(out:List T)(h:stepN (b::t)≤k+1) :stepO (b::t.take k) line out=stepO (b::t) line out:=by
 have ht:(b::t.take k).take (stepN (b::t))=(b::t).take (stepN (b::t)):=by
  rw [←List.take_succ_cons,List.take_take,Nat.min_eq_left h]
 unfold stepO
 dsimp only
 rw [stepN_take b t k h,ht]
theorem cutE_app :∀(n:Nat) (l m:List UInt8) (f pos:Nat) (line:Bool) (out:List T),l.length=n→(l++10::m).length<f→
  cutE f (l++10::m) pos line out=match cutE f l pos line out with
   | .err p=> .err p
   | .ok _ out'=>cutE f m (pos+l.length+1) true out':=by
 intro n
 induction n using Nat.strongRecOn with
 | ind n ih=>
  intro l m f pos line out hn hf
  rw [List.length_append,List.length_cons] at hf
  cases l with
  | nil=>
   rw [cutE_nil f pos line out (by omega),List.nil_append,cutE_step f 10 m pos line out (by rw [List.length_cons]; omega)]
   have h1:stepO (10::m) line out=some (true,out):=rfl
   have h2:stepN (10::m)=1:=rfl
   rw [h1,h2]
   rfl
  | cons b t=>
   rw [List.cons_append,cutE_step f b _ pos line out (by rw [List.length_cons,List.length_append,List.length_cons]; simp at hf; omega),cutE_step f b t pos line out (by simp at hf ⊢; omega),stepO_app,stepN_app]
   cases stepO (b::t) line out with
   | none=>rfl
   | some r=>
    obtain ⟨l',o'⟩:=r
    dsimp only
    have hp:=stepN_pos b t
    have hle:=stepN_le (b::t)
    have hd:(b::(t++10::m)).drop (stepN (b::t))=(b::t).drop (stepN (b::t))++10::m:=by
     rw [←List.cons_append,List.drop_append_of_le_length hle]
    have hlen:((b::t).drop (stepN (b::t))).length=(b::t).length - stepN (b::t):=List.length_drop
    have hbt:(b::t).length=t.length+1:=rfl
    rw [hd,ih ((b::t).drop (stepN (b::t))).length (by omega) _ m f _ l' o' rfl (by rw [List.length_append,List.length_cons]; omega),hlen]
    have:pos+stepN (b::t)+((b::t).length - stepN (b::t))+1=pos+(b::t).length+1:=by omega
    rw [this]
theorem cutE_take :∀(n:Nat) (l:List UInt8) (f pos:Nat) (line:Bool) (out:List T) (p:Nat),l.length=n→l.length<f→cutE f l pos line out= .err p→
  pos≤p∧p<pos+l.length∧∃line' out',cutE f (l.take (p - pos)) pos line out= .ok line' out':=by
 intro n
 induction n using Nat.strongRecOn with
 | ind n ih=>
  intro l f pos line out p hn hf he
  cases l with
  | nil=>rw [cutE_nil f pos line out (by omega)] at he; cases he
  | cons b t=>
   rw [cutE_step f b t pos line out hf] at he
   cases ho:stepO (b::t) line out with
   | none=>
    rw [ho] at he
    cases he
    refine ⟨Nat.le_refl _,by simp,line,out, ?_⟩
    rw [Nat.sub_self,List.take_zero]
    exact cutE_nil f pos line out (by omega)
   | some r=>
    obtain ⟨l',o'⟩:=r
    rw [ho] at he
    dsimp only at he
    have hp:=stepN_pos b t
    have hle:=stepN_le (b::t)
    have hlen:((b::t).drop (stepN (b::t))).length=(b::t).length - stepN (b::t):=List.length_drop
    have hbt:(b::t).length=t.length+1:=rfl
    obtain ⟨h1,h2,l2,o2,h3⟩:=ih ((b::t).drop (stepN (b::t))).length (by omega) _ f _ l' o' p rfl (by omega) he
    refine ⟨by omega,by omega,l2,o2, ?_⟩
    obtain ⟨k,hk⟩:∃k,p - pos=k+1:=⟨p - pos - 1,by omega⟩
    rw [hk,List.take_succ_cons,cutE_step f b (t.take k) pos line out (by rw [List.length_cons,List.length_take]; omega),stepN_take b t k (by omega),stepO_take b t k line out (by omega),ho]
    dsimp only
    rw [←h3]
    have hd:(b::t.take k).drop (stepN (b::t))=((b::t).drop (stepN (b::t))).take (p - (pos+stepN (b::t))):=by
     rw [←List.take_succ_cons,List.drop_take]
     have:k+1 - stepN (b::t)=p - (pos+stepN (b::t)):=by omega
     rw [this]
    rw [hd]
end Go.Proofs.Ytpfploolkmcalaa.VM
end
section
namespace Go.Proofs.Ytpfploolkmcalaa.VM
set_option linter.unusedSectionVars false
open Go AM
set_option linter.unusedVariables false
set_option linter.unusedSimpArgs false
def chkE(t:Tk) :Int:=bif decide (t.1=4) &&(decide (t.2.1=ByteArray.empty) &&decide (t.2.2=0)) || decide (tok t.2.1.data.toList=some (t.1,t.2.2)) then 0 else 1
theorem check26(k:Int)(s:ByteArray)(n:Int) :vr 96 0 [.t (tokT s k n)] e0=some (.t (.int .i64 (chkE (k,s,n))),e0):=by
 have h:=eq96 k s n
 unfold tokT
 rw [h,R96,read31]
 unfold chkE
 dsimp only
 cases ht:tok s.data.toList with
 | none=>
  simp only [callK_some,asTup_tup,consV_cons,asT_t,tokT,asA_agg,consT_cons,asI_int,asS_str,endT_nil,asB_bool,endV_nil,endB_nil,cf,Bool.and_true]
  have e:decide ((none:Option (Int×Int))=some (k,n))=false:=decide_eq_false (by simp)
  rw [e,Bool.or_false]
  cases decide (k=4) &&(decide (s=ByteArray.empty) &&decide (n=0)) <;>rfl
 | some r=>
  obtain ⟨k',n'⟩:=r
  simp only [callK_some,asTup_tup,consV_cons,asT_t,tokT,asA_agg,consT_cons,asI_int,asS_str,endT_nil,asB_bool,endV_nil,endB_nil,ct,Bool.and_true]
  have e:decide (some (k',n')=some (k,n))=(decide (k=k') &&decide (n=n')):=by
   rw [Bool.eq_iff_iff]
   simp only [decide_eq_true_eq,Bool.and_eq_true,Option.some.injEq,Prod.mk.injEq]
   exact ⟨fun h=>⟨h.1.symm,h.2.symm⟩,fun h=>⟨h.1.symm,h.2.symm⟩⟩
  rw [e]
  cases decide (k=4) &&(decide (s=ByteArray.empty) &&decide (n=0)) <;>cases decide (k=k') <;>cases decide (n=n') <;>simp
def tkOf(x:T) :Tk×Int:=match x with | .agg [.int _ k, .str s, .int _ n]=>((k,s,n),chkE (k,s,n)) | _=>((0,ByteArray.empty,0),1)
theorem tkOf_tok(s:ByteArray)(k n:Int) :tkOf (tokT s k n)=((k,s,n),chkE (k,s,n)):=rfl
theorem chks_vr :∀(l:List T),(∀x∈l,IsTok x)→∃k,chksV (vN Try.prog hint k) 96 l=some (l.map tkOf)
 | [],_=>⟨0,rfl⟩
 | x::l,h=>by
  obtain ⟨k1,h1⟩:=chks_vr l fun y hy=>h y (List.mem_cons_of_mem _ hy)
  obtain ⟨s,k,v,rfl⟩:=h x (List.mem_cons_self ..)
  obtain ⟨k2,h2⟩:=vrun_some Try.prog hint (check26 k s v)
  refine ⟨max k1 k2, ?_⟩
  have e1:=chksV_mono (vN_max Try.prog hint k1 k2) 96 h1
  have e2:=vN_max' Try.prog hint k1 k2 _ _ _ _ _ h2
  rw [chksV,e1,e2]
  rfl
theorem join23(z:Bool)(l:List T)(hl:∀x∈l,IsTok x)(hk:joinOk (l.map tkOf)=true) :
  vr 46 0 [.t (.list 3 z l)] e0=some (.tup [.t (.str ⟨(joinE (l.map tkOf)).1.toArray⟩), .t (.int .i64 (joinE (l.map tkOf)).2)],e0):=by
 obtain ⟨k,hk1⟩:=chks_vr l hl
 refine vrun_ov (k:=k) Try.prog hint rfl ?_ []
 show ((chksV (vN Try.prog hint k) 96 l).bind fun xs=>needC (joinOk xs) fun _=>some (V.tup [.t (.str ⟨(joinE xs).1.toArray⟩), .t (.int .i64 (joinE xs).2)]))=_
 rw [hk1,Option.bind_some,hk]
 rfl
def wtJ(l:List (Tk×Int)) :Nat:=(l.map fun x=>x.1.2.1.size+1).sum
theorem jtext_len :∀(l:List (Tk×Int)) (sp:List UInt8),sp.length≤1→(jtext sp l).length≤wtJ l+sp.length
 | [],sp,_=>by simp [jtext]
 | x::l,sp,h=>by
  have e:wtJ (x::l)=x.1.2.1.size+1+wtJ l:=by simp [wtJ]
  have es:x.1.2.1.data.toList.length=x.1.2.1.size:=size_list _
  rw [jtext]
  split
  ·have:=jtext_len l [10] (Nat.le_refl _)
   rw [e]
   simp at this
   omega
  ·have:=jtext_len l [32] (Nat.le_refl _)
   rw [e,List.length_append,List.length_append,es]
   simp at this
   omega
theorem jline_app :∀(a b:List (Tk×Int)) (l:Bool),jline l (a++b)=(jline l a).bind fun m=>jline m b
 | [],b,l=>rfl
 | x::a,b,l=>by
  rw [List.cons_append,jline,jline]
  split
  ·exact jline_app a b _
  ·rfl
end Go.Proofs.Ytpfploolkmcalaa.VM
end
section
namespace Go.Proofs.Ytpfploolkmcalaa.VM
set_option linter.unusedSectionVars false
open Go AM
set_option linter.unusedVariables false
set_option linter.unusedSimpArgs false
def Gap(l:List UInt8) :Prop:=l=[]∨∃c t,l=c::t∧(c=32∨c=10)
theorem gap_text :∀(l:List (Tk×Int)) (c:UInt8),(c=32∨c=10)→Gap (jtext [c] l)
 | [],c,h=> .inl rfl
 | x::l,c,h=>by
  rw [jtext]
  split
  ·exact gap_text l 10 (.inr rfl)
  ·exact .inr ⟨c,_,rfl,h⟩
theorem gap_no{c:UInt8}(h:c=32∨c=10) :(isL c || isD c)=false:=by
 rcases h with rfl | rfl <;>decide
theorem runL_gap :∀(l r:List UInt8),(l.all fun b=>isL b || isD b)=true→Gap r→runL (l++r)=l.length
 | [],r,_,h=>by
  rcases h with rfl | ⟨c,t,rfl,h⟩
  ·rfl
  ·rw [List.nil_append,runL_cons,gap_no h]; rfl
 | b::l,r,ha,h=>by
  rw [List.all_cons] at ha
  rw [List.cons_append,runL_cons]
  cases hb:isL b || isD b with
  | false=>rw [hb] at ha; cases ha
  | true=>rw [hb] at ha; rw [ct,runL_gap l r ha h]; rfl
theorem byte_kinds(b:UInt8) :((isL b || isD b)=true→decide (b=10)=false∧(decide (b=32) || decide (b=9))=false∧decide (b=35)=false)∧(isS b=true→decide (b=10)=false∧(decide (b=32) || decide (b=9))=false∧decide (b=35)=false∧(isL b || isD b)=false):=by
 have h:=all_bytes (p:=fun b=>(!(isL b || isD b) || (!decide (b=10) && !(decide (b=32) || decide (b=9)) && !decide (b=35))) &&(!isS b || (!decide (b=10) && !(decide (b=32) || decide (b=9)) && !decide (b=35) && !(isL b || isD b)))) (by decide+kernel) b
 revert h
 generalize (isL b || isD b)=p
 generalize isS b=q
 generalize decide (b=10)=u
 generalize (decide (b=32) || decide (b=9))=v
 generalize decide (b=35)=w
 cases p <;>cases q <;>cases u <;>cases v <;>cases w <;>simp
theorem numL_all :∀(l:List UInt8) (n m:Int),numL l n=some m→l.all isD=true
 | [],_,_,_=>rfl
 | b::l,n,m,h=>by
  unfold numL at h
  cases hb:isD b with
  | false=>rw [hb] at h; cases h
  | true=>rw [hb] at h; rw [List.all_cons,hb]; exact numL_all l _ _ h
theorem tok_kinds{l:List UInt8}{k n:Int}(h:tok l=some (k,n)) :k ≠4∧∃b t,l=b::t∧((l.all fun b=>isL b || isD b)=true∨(t=[]∧isS b=true)):=by
 unfold tok at h
 cases hn:number l with
 | some m=>
  rw [hn] at h
  cases h
  refine ⟨by decide, ?_⟩
  unfold number at hn
  cases l with
  | nil=>cases hn
  | cons b t=>
   refine ⟨b,t,rfl, .inl ?_⟩
   have:(b::t).all isD=true:=by
    dsimp only at hn
    revert hn
    cases decide (18<(b::t).length) <;>cases decide (1<(b::t).length) &&decide (b=48) <;>intro hn <;>first | (cases hn; done) | exact numL_all _ _ _ hn
   rw [List.all_eq_true] at this ⊢
   intro x hx
   rw [this x hx,bOT]
 | none=>
  rw [hn] at h
  cases hw:isWord l with
  | true=>
   rw [hw] at h
   cases h
   refine ⟨by decide, ?_⟩
   cases l with
   | nil=>cases hw
   | cons b t=>
    refine ⟨b,t,rfl, .inl ?_⟩
    unfold isWord at hw
    simp only [Bool.and_eq_true] at hw
    exact hw.2
  | false=>
   rw [hw] at h
   cases hs:isSign l with
   | false=>rw [hs] at h; cases h
   | true=>
    rw [hs] at h
    cases h
    refine ⟨by decide, ?_⟩
    match l,hs with
    | [b],hs=>exact ⟨b,[],rfl, .inr ⟨rfl,hs⟩⟩
theorem cutE_tok{l r:List UInt8}{k n:Int}(ht:tok l=some (k,n))(hr:Gap r)(f pos:Nat)(line:Bool)(out:List T)(hf:(l++r).length<f) :
  cutE f (l++r) pos line out=cutE f r (pos+l.length) false ((bif line && !out.isEmpty then out++[lineT] else out)++[tokT ⟨⟨l⟩⟩ k n]):=by
 obtain ⟨_,b,t,rfl,h⟩:=tok_kinds ht
 have hn:stepN (b::(t++r))=(b::t).length∧decide (b=10)=false∧(decide (b=32) || decide (b=9))=false∧decide (b=35)=false:=by
  unfold stepN
  dsimp only
  rcases h with h | ⟨rfl,h⟩
  ·have hb:(isL b || isD b)=true:=by rw [List.all_cons] at h; exact (Bool.and_eq_true _ _▸h).1
   obtain ⟨h1,h2,h3⟩:=(byte_kinds b).1 hb
   refine ⟨?_,h1,h2,h3⟩
   rw [h1,h2,h3,hb,cf,cf,cf,ct]
   exact runL_gap (b::t) r h hr
  ·obtain ⟨h1,h2,h3,h4⟩:=(byte_kinds b).2 h
   refine ⟨?_,h1,h2,h3⟩
   rw [h1,h2,h3,h4,cf,cf,cf,cf]
   rfl
 obtain ⟨hn,h1,h2,h3⟩:=hn
 have e1:(b::(t++r)).take (b::t).length=b::t:=by rw [←List.cons_append,List.take_left]
 have e2:(b::(t++r)).drop (b::t).length=r:=by rw [←List.cons_append,List.drop_left]
 rw [List.cons_append] at hf ⊢
 rw [cutE_step f b (t++r) pos line out hf,hn]
 unfold stepO
 dsimp only
 rw [h1,h2,h3,cf,cf,cf,hn,e1,ht,e2]
theorem cutE_32(f:Nat)(r:List UInt8)(pos:Nat)(line:Bool)(out:List T)(hf:(32::r).length<f) :cutE f (32::r) pos line out=cutE f r (pos+1) line out:=by
 rw [cutE_step f 32 r pos line out hf]
 rfl
theorem cutE_10(f:Nat)(r:List UInt8)(pos:Nat)(line:Bool)(out:List T)(hf:(10::r).length<f) :cutE f (10::r) pos line out=cutE f r (pos+1) true out:=by
 rw [cutE_step f 10 r pos line out hf]
 rfl
def unTk(x:Tk×Int) :T:=tokT x.1.2.1 x.1.1 x.1.2.2
def ChkOk(l:List (Tk×Int)) :Prop:=∀x∈l,x.2=chkE x.1
theorem chk_kind{x:Tk×Int}(h:x.2=chkE x.1)(h0:x.2=0) :(x.1.1=4∧unTk x=lineT)∨(x.1.1 ≠4∧tok x.1.2.1.data.toList=some (x.1.1,x.1.2.2)):=by
 rw [h] at h0
 unfold chkE at h0
 cases h1:decide (x.1.1=4) &&(decide (x.1.2.1=ByteArray.empty) &&decide (x.1.2.2=0)) with
 | true=>
  simp only [Bool.and_eq_true,decide_eq_true_eq] at h1
  refine .inl ⟨h1.1, ?_⟩
  unfold unTk lineT tokT
  rw [h1.1,h1.2.1,h1.2.2]
 | false=>
  rw [h1] at h0
  cases h2:decide (tok x.1.2.1.data.toList=some (x.1.1,x.1.2.2)) with
  | false=>rw [h2] at h0; cases h0
  | true=>
   have:=of_decide_eq_true h2
   exact .inr ⟨(tok_kinds this).1,this⟩
theorem bytes_mk(s:ByteArray) :(⟨⟨s.data.toList⟩⟩:ByteArray)=s:=rfl
theorem cut_rest :∀(l:List (Tk×Int)),ChkOk l→∀(f pos:Nat) (out:List T),out ≠[]→
  (jline false l=some false→(jtext [32] l).length<f→cutE f (jtext [32] l) pos false out= .ok false (out++l.map unTk))∧
  (jline true l=some false→(jtext [10] l).length<f→cutE f (jtext [10] l) pos false out= .ok false (out++lineT::l.map unTk))
 | [],hc,f,pos,out,ho=>⟨fun _ hf=>by rw [jtext,cutE_nil f _ _ _ (by omega),List.map_nil,List.append_nil],fun h=>by cases h⟩
 | x::l,hc,f,pos,out,ho=>by
  have hx:=hc x (List.mem_cons_self ..)
  have hl:ChkOk l:=fun y hy=>hc y (List.mem_cons_of_mem _ hy)
  have one:∀(pos:Nat) (line:Bool) (out:List T),x.2=0→x.1.1 ≠4→jline false l=some false→(x.1.2.1.data.toList++jtext [32] l).length<f→
    cutE f (x.1.2.1.data.toList++jtext [32] l) pos line out= .ok false ((bif line && !out.isEmpty then out++[lineT] else out)++unTk x::l.map unTk):=by
   intro pos line out h0 h4 hj hf
   obtain ⟨_,ht⟩:=(chk_kind hx h0).resolve_left (fun h=>h4 h.1)
   rw [cutE_tok ht (gap_text l 32 (.inl rfl)) f pos line out hf]
   rw [(cut_rest l hl f _ _ (by simp)).1 hj (by rw [List.length_append] at hf; omega),List.append_assoc]
   rfl
  constructor
  ·intro hj hf
   rw [jline] at hj
   split at hj
   ·rename_i h
    rw [jtext] at hf ⊢
    by_cases h4:x.1.1=4
    ·rw [if_pos h4] at hf ⊢
     rw [decide_eq_true h4] at hj
     obtain ⟨_,hun⟩:=(chk_kind hx h.1).resolve_right (fun h=>h.1 h4)
     rw [(cut_rest l hl f pos out ho).2 hj hf,List.map_cons,hun]
    ·rw [if_neg h4] at hf ⊢
     rw [decide_eq_false h4] at hj
     rw [List.cons_append,List.nil_append] at hf ⊢
     rw [cutE_32 f _ _ _ _ hf,one _ _ _ h.1 h4 hj (by rw [List.length_cons] at hf; omega)]
     rfl
   ·cases hj
  ·intro hj hf
   rw [jline] at hj
   split at hj
   ·rename_i h
    have h4:x.1.1 ≠4:=fun e=>h.2 ⟨rfl,e⟩
    rw [jtext,if_neg h4] at hf ⊢
    rw [decide_eq_false h4] at hj
    rw [List.cons_append,List.nil_append] at hf ⊢
    rw [cutE_10 f _ _ _ _ hf,one _ _ _ h.1 h4 hj (by rw [List.length_cons] at hf; omega)]
    have:out.isEmpty=false:=by simpa using ho
    rw [this]
    simp
   ·cases hj
theorem cut_join(l:List (Tk×Int))(hc:ChkOk l)(hj:(joinE l).2=0)(f:Nat)(hf:(jtext [] l).length<f) :cutE f (jtext [] l) 0 false []= .ok false (l.map unTk)∧(joinE l).1=jtext [] l∧l.length≤4096:=by
 unfold joinE at hj ⊢
 cases hl:jline true l with
 | none=>rw [hl] at hj; cases hj
 | some b=>
  rw [hl] at hj
  dsimp only at hj ⊢
  split at hj
  ·cases hj
  rename_i h1
  split at hj
  ·cases hj
  rename_i h2
  rw [if_neg h1,if_neg h2]
  refine ⟨?_,rfl,by omega⟩
  cases l with
  | nil=>exact cutE_nil f _ _ _ (by omega)
  | cons x l=>
   have hb:b=false:=by
    cases b with
    | false=>rfl
    | true=>exact absurd ⟨rfl,by simp⟩ h1
   subst hb
   rw [jline] at hl
   split at hl
   ·rename_i h
    have h4:x.1.1 ≠4:=fun e=>h.2 ⟨rfl,e⟩
    rw [jtext,if_neg h4,List.nil_append] at hf ⊢
    rw [decide_eq_false h4] at hl
    obtain ⟨_,ht⟩:=(chk_kind (hc x (List.mem_cons_self ..)) h.1).resolve_left (fun h=>h4 h.1)
    rw [cutE_tok ht (gap_text l 32 (.inl rfl)) f 0 false [] hf]
    rw [(cut_rest l (fun y hy=>hc y (List.mem_cons_of_mem _ hy)) f _ _ (by simp)).1 hl (by rw [List.length_append] at hf; omega)]
    rfl
   ·cases hl
end Go.Proofs.Ytpfploolkmcalaa.VM
end
section
namespace Go.Proofs.Ytpfploolkmcalaa.VM
set_option linter.unusedSectionVars false
open Go AM
set_option linter.unusedVariables false
set_option linter.unusedSimpArgs false
theorem jline_tok{l:Bool}{x:Tk×Int}(h:x.2=0)(h4:x.1.1 ≠4) :jline l [x]=some false:=by
 rw [jline,if_pos ⟨h,fun e=>h4 e.2⟩,decide_eq_false h4]
 rfl
theorem jline_line :jline false [tkOf lineT]=some true:=rfl
structure Cutd (pos:Nat) (line:Bool) (out:List T):Prop where
 tks:∀x∈out,IsTok x
 ln:out ≠[]→jline true (out.map tkOf)=some false
 wt:wtJ (out.map tkOf)+(if line then 1 else 0)≤2*pos
theorem Cutd.add{pos n:Nat}{line:Bool}{out:List T}(h:Cutd pos line out){s:List UInt8}{k v:Int}(hs:tok s=some (k,v))(hn:s.length=n) :
  Cutd (pos+n) false ((bif line && !out.isEmpty then out++[lineT] else out)++[tokT ⟨⟨s⟩⟩ k v]):=by
 obtain ⟨h4,b,t,hb,_⟩:=tok_kinds hs
 have hpos:0<n:=by rw [←hn,hb]; simp
 have hchk:(tkOf (tokT ⟨⟨s⟩⟩ k v)).2=0:=by
  show chkE (k,⟨⟨s⟩⟩,v)=0
  unfold chkE
  have:decide (tok s=some (k,v))=true:=decide_eq_true hs
  show (bif (decide (k=4) &&_) || decide (tok s=some (k,v)) then (0:Int) else 1)=0
  rw [this,Bool.or_true]
  rfl
 have hsz:(⟨⟨s⟩⟩:ByteArray).size=n:=hn
 have w1:∀a:List T,wtJ ((a++[tokT ⟨⟨s⟩⟩ k v]).map tkOf)=wtJ (a.map tkOf)+(n+1):=by
  intro a
  unfold wtJ
  simp [tkOf_tok,hsz]
 have w2:∀a:List T,wtJ ((a++[lineT]).map tkOf)=wtJ (a.map tkOf)+1:=by
  intro a
  unfold wtJ
  simp [tkOf,lineT]
 have hw:=h.wt
 refine ⟨fun x hx=> ?_,fun _=> ?_, ?_⟩
 ·rcases List.mem_append.1 hx with hx | hx
  ·cases hl:line && !out.isEmpty <;>rw [hl] at hx <;>simp only [cond_true,cond_false] at hx
   ·exact h.tks x hx
   ·rcases List.mem_append.1 hx with hx | hx
    ·exact h.tks x hx
    ·exact ⟨_,_,_,by simpa [lineT,tokT] using hx⟩
  ·exact ⟨_,_,_,by simpa using hx⟩
 ·have h5:(tkOf (tokT ⟨⟨s⟩⟩ k v)).1.1 ≠4:=h4
  cases out with
  | nil=>
   have:(bif line && !([]:List T).isEmpty then []++[lineT] else ([]:List T))=[]:=by cases line <;>rfl
   rw [this]
   exact jline_tok hchk h5
  | cons x out=>
   have hj:=h.ln (by simp)
   cases line with
   | false=>
    rw [List.map_append,jline_app]
    show (jline true ((x::out).map tkOf)).bind _=_
    rw [hj]
    exact jline_tok hchk h5
   | true=>
    rw [List.map_append,jline_app]
    show (jline true ((x::out++[lineT]).map tkOf)).bind _=_
    rw [List.map_append,jline_app,hj]
    show (jline false [tkOf lineT]).bind _=_
    rw [jline_line]
    exact jline_tok hchk h5
 ·rw [w1]
  cases hl:line && !out.isEmpty with
  | false=>simp only [cond_false]; simp; split at hw <;>omega
  | true=>
   have:line=true:=by cases line; cases hl; rfl
   subst this
   simp only [cond_true]
   rw [w2]
   simp at hw ⊢
   omega
theorem cut_cutd :∀(f:Nat) (l:List UInt8) (pos:Nat) (line:Bool) (out:List T),Cutd pos line out→∀{ln:Bool} {o:List T},cutE f l pos line out= .ok ln o→Cutd (pos+l.length) ln o
 | 0,l,pos,line,out,h,ln,o,he=>by cases he
 | f+1,[],pos,line,out,h,ln,o,he=>by cases he; exact h
 | f+1,b::t,pos,line,out,h,ln,o,he=>by
  rw [cutE] at he
  have hle:=stepN_le (b::t)
  have hp:=stepN_pos b t
  split at he
  ·cases he
  ·rename_i l' o' hs
   have h2:Cutd (pos+stepN (b::t)) l' o':=by
    unfold stepO at hs
    dsimp only at hs
    revert hs
    have blank:∀l2,(l2=true∨l2=line)→Cutd (pos+stepN (b::t)) l2 out:=fun l2 h2=>⟨h.tks,h.ln,by
     have:=h.wt
     rcases h2 with rfl | rfl <;>split <;>(try split at this) <;>omega⟩
    cases decide (b=10) with
    | true=>intro hs; cases hs; exact blank true (.inl rfl)
    | false=>
     cases decide (b=32) || decide (b=9) with
     | true=>intro hs; cases hs; exact blank _ (.inr rfl)
     | false=>
      cases decide (b=35) with
      | true=>intro hs; cases hs; exact blank _ (.inr rfl)
      | false=>
       intro hs
       simp only [cond_false] at hs
       split at hs
       ·cases hs
       ·rename_i k v ht
        cases hs
        exact h.add ht (by rw [List.length_take]; omega)
   have:=cut_cutd f _ _ _ _ h2 he
   have e:pos+stepN (b::t)+((b::t).drop (stepN (b::t))).length=pos+(b::t).length:=by rw [List.length_drop]; omega
   rwa [e] at this
theorem un_tk{l:List T}(h:∀x∈l,IsTok x) :(l.map tkOf).map unTk=l:=by
 induction l with
 | nil=>rfl
 | cons x l ih=>
  obtain ⟨s,k,v,rfl⟩:=h x (List.mem_cons_self ..)
  rw [List.map_cons,List.map_cons,ih fun y hy=>h y (List.mem_cons_of_mem _ hy)]
  rfl
theorem chk_of(l:List T)(h:∀x∈l,IsTok x) :ChkOk (l.map tkOf):=fun y hy=>by
 obtain ⟨x,hx,rfl⟩:=List.mem_map.1 hy
 obtain ⟨s,k,v,rfl⟩:=h x hx
 rfl
theorem cut_of_join{l:List T}(h:∀x∈l,IsTok x)(hj:(joinE (l.map tkOf)).2=0)(hs:(joinE (l.map tkOf)).1.length≤65536) :
  cutOf ⟨(joinE (l.map tkOf)).1.toArray⟩= .tup [.t (.list 3 (!l.isEmpty) l), .t (.int .i64 ((joinE (l.map tkOf)).1.length:Int)), .t (.int .i64 0)]:=by
 obtain ⟨h1,h2,h3⟩:=cut_join (l.map tkOf) (chk_of l h) hj ((joinE (l.map tkOf)).1.length+1) (by
  obtain ⟨_,h2,_⟩:=cut_join (l.map tkOf) (chk_of l h) hj _ (Nat.lt_succ_self _)
  rw [h2]; omega)
 rw [List.length_map] at h3
 rw [un_tk h,←h2] at h1
 have hz:(⟨(joinE (l.map tkOf)).1.toArray⟩:ByteArray).size=(joinE (l.map tkOf)).1.length:=by simp [ByteArray.size]
 have hd:(⟨(joinE (l.map tkOf)).1.toArray⟩:ByteArray).data.toList=(joinE (l.map tkOf)).1:=by simp
 unfold cutOf
 rw [hz,hd,decide_eq_false (by omega),cf,cutE_toR,h1]
 unfold CutE.toR cutV
 dsimp only
 rw [decide_eq_false (by omega),cf]
theorem joinE_small{l:List (Tk×Int)}(h:(joinE l).2=0) :(joinE l).1=jtext [] l:=by
 unfold joinE at h ⊢
 split
 ·rename_i e; rw [e] at h; cases h
 ·rename_i b e
  rw [e] at h
  dsimp only at h ⊢
  split at h
  ·cases h
  ·rename_i h1
   split at h
   ·cases h
   ·rename_i h2
    rw [if_neg h1,if_neg h2]
theorem joinOk_of{l:List (Tk×Int)}(h1:l.length≤140737488355328)(h2:wtJ l≤140737488355328) :joinOk l=true:=by
 unfold joinOk
 have:=jtext_len l [] (by simp)
 rw [decide_eq_true h1,decide_eq_true (p:=(jtext [] l).length≤140737488355328) (by simp at this; omega),Bool.or_true]
 rfl
end Go.Proofs.Ytpfploolkmcalaa.VM
end
