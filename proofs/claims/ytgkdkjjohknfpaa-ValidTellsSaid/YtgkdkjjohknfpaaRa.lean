/- Merged: Ra1 Ra2. Conditions: none. -/
import Derived.Test.YtgkdkjjohknfpaaTa
set_option linter.all false
section
namespace Go.Proofs.Ytgkdkjjohknfpaa.VM
set_option linter.unusedSectionVars false
set_option linter.unusedVariables false
open Go AM
def klL(k:Int) :List UInt8:=bif decide (k=1) then [119] else bif decide (k=2) then [114] else bif decide (k=3) then [97] else bif decide (k=4) then [112] else bif decide (k=5) then [110] else []
def kindsS(s:Sh) :List UInt8:=klL s.k0++(klL s.k1++klL s.k2)
theorem word63(op:Int) :vr 63 0 [.t (.int .i64 op)] e0=some (.tup [.t (.str ⟨⟨(shOf op).w⟩⟩), .t (.str ⟨⟨kindsS (shOf op)⟩⟩)],e0):=by
 rw [eq63,R63]
 by_cases h0:op<0
 ·have:isOp op=false:=by unfold isOp; rw [decide_eq_false (by omega:¬0≤op)]; rfl
  unfold shOf
  rw [decide_eq_true h0,ct,this,cf]
  rfl
 ·rw [decide_eq_false h0,cf]
  by_cases h1:13≤op
  ·have:isOp op=false:=by unfold isOp; rw [decide_eq_false (by omega:¬op<13),bAF]
   unfold shOf
   rw [decide_eq_true h1,ct,this,cf]
   rfl
  ·have hc:op=0∨op=1∨op=2∨op=3∨op=4∨op=5∨op=6∨op=7∨op=8∨op=9∨op=10∨op=11∨op=12:=by omega
   rcases hc with rfl | rfl | rfl | rfl | rfl | rfl | rfl | rfl | rfl | rfl | rfl | rfl | rfl <;>rfl
theorem sh_all{p:Sh→Prop}(h0:p sh0)(h:∀s∈shL,p s)(op:Int) :p (shOf op):=by
 rcases sh_cases op with h1 | h1
 ·rw [h1.2]; exact h0
 ·exact h _ h1.2
theorem kinds_len(op:Int) :(kindsS (shOf op)).length≤3:=by
 refine sh_all (p:=fun s=>(kindsS s).length≤3) (by decide) (by decide) op
theorem bytes_size(ks:List UInt8) :(⟨⟨ks⟩⟩:ByteArray).size=ks.length:=rfl
theorem bytes_at{ks:List UInt8}{j:Nat}(h:j<ks.length) :(⟨⟨ks⟩⟩:ByteArray)[j]! =ks[j]:=byte_at (s:=⟨⟨ks⟩⟩) h
def rdK :List UInt8→List Int→List Int
 | k::ks,v::vs=>(bif decide ((k.toNat:Int)=114) then [v] else [])++rdK ks vs
 | _,_=>[]
theorem rdK_eq(s:Sh)(h:s=sh0∨s∈shL)(a b c:Int) :rdK (kindsS s) [a,b,c]=cond1 (decide (s.k0=2)) a++(cond1 (decide (s.k1=2)) b++cond1 (decide (s.k2=2)) c):=by
 rcases h with rfl | h
 ·rfl
 ·simp only [shL,List.mem_cons,List.not_mem_nil,or_false] at h
  rcases h with rfl | rfl | rfl | rfl | rfl | rfl | rfl | rfl | rfl | rfl | rfl | rfl | rfl <;>rfl
theorem sh_or(op:Int) :shOf op=sh0∨shOf op∈shL:=by
 rcases sh_cases op with h | h
 ·exact .inl h.2
 ·exact .inr h.2
theorem L49_4_spec(ks:List UInt8)(hb:ks.length≤3)(o a b c n:Int) :∀(m j:Nat) (out:List Int),m+j=ks.length→out.length≤j→
  L49_4 ⟨⟨ks⟩⟩ ((ks.length:Nat):Int) (j:Int) o a b c n (!out.isEmpty) (ints out)=some (numsV (out++rdK (ks.drop j) ([a,b,c].drop j)),e0)
 | 0,j,out,h,ho=>by
  have d:decide ((j:Int)<((ks.length:Nat):Int))=false:=decide_eq_false (by omega)
  rw [L49_4_eq,RL49_4,d,cf,List.drop_of_length_le (by omega)]
  have:rdK [] ([a,b,c].drop j)=[]:=rfl
  rw [this,List.append_nil]
 | m+1,j,out,h,ho=>by
  have hlt:j<ks.length:=by omega
  have hl3:j<[a,b,c].length:=by simp; omega
  have d:decide ((j:Int)<((ks.length:Nat):Int))=true:=decide_eq_true (by omega)
  have n0:decide ((0:Int)≤(j:Int))=true:=decide_eq_true (by omega)
  have d2:decide ((j:Int)<((⟨⟨ks⟩⟩:ByteArray).size:Int))=true:=decide_eq_true (by rw [bytes_size]; omega)
  have hw:IntKind.i64.wrap ((j:Int)+1)=((j+1:Nat):Int):=by rw [wrap64 (by omega) (by omega)]; simp
  have ih:=fun out'=>L49_4_spec ks hb o a b c n m (j+1) out' (by omega)
  rw [L49_4_eq,RL49_4,d,ct,n0,d2,bTA,needC_t,Int.toNat_natCast,bytes_at hlt,List.drop_eq_getElem_cons hlt,List.drop_eq_getElem_cons hl3]
  have e:rdK (ks[j]::ks.drop (j+1)) ([a,b,c][j]::[a,b,c].drop (j+1))=(bif decide (((ks[j]).toNat:Int)=114) then [[a,b,c][j]] else [])++rdK (ks.drop (j+1)) ([a,b,c].drop (j+1)):=rfl
  rw [e,hw]
  cases decide (((ks[j]).toNat:Int)=114) with
  | false=>
   rw [cf,cf,ih out (by omega)]
   rfl
  | true=>
   have hg:([.int .i64 a, .int .i64 b, .int .i64 c]:List T)[j]? =some (.int .i64 [a,b,c][j]):=ints_at (l:=[a,b,c]) hl3
   have ha:(decide (((ints out).length+1)*(8+1)≤70368744177664) &&decide (8≤1048576))=true:=by
    have:(ints out).length=out.length:=List.length_map _
    rw [this,decide_eq_true (by omega:(out.length+1)*(8+1)≤70368744177664)]; rfl
   have hne:(!out.isEmpty || true)=(!(out++[[a,b,c][j]]).isEmpty):=by cases out <;>rfl
   have hi:ints out++[T.int .i64 [a,b,c][j]]=ints (out++[[a,b,c][j]]):=by unfold ints; rw [List.map_append]; rfl
   rw [ct,ct,eq64,R64,callK_some,asT_t,asL_list,endB_nil,needC_t,getT_at hg,asI_int,needC_true ha,hne,hi,ih _ (by simp; omega),List.append_assoc]
theorem reads49(x:Ins) :vr 49 0 [.t (insT x)] e0=some (numsV (readsL x),e0):=by
 have hs:=L49_4_spec (kindsS (shOf x.op)) (kinds_len x.op) x.op x.a x.b x.c x.n (kindsS (shOf x.op)).length 0 [] (by omega) (Nat.le_refl _)
 have h00:((0:Nat):Int)=0:=rfl
 rw [h00,List.drop_zero,List.drop_zero,List.nil_append,rdK_eq _ (sh_or x.op)] at hs
 unfold insT
 rw [eq49,R49,word63,callK_some,asTup_tup,consV_cons,asT_t,asS_str,consV_cons,asT_t,asS_str,endV_nil,endB_nil]
 unfold readsL
 exact hs
theorem writes61(x:Ins) :vr 61 0 [.t (insT x)] e0=some (.tup [.t (.int .i64 (bif writesB x then x.a else 0)), .t (.bool (writesB x))],e0):=by
 unfold insT
 rw [eq61,R61,word63,callK_some,asTup_tup,consV_cons,asT_t,asS_str,consV_cons,asT_t,asS_str,endV_nil,endB_nil]
 unfold writesB
 have h:=sh_or x.op
 generalize shOf x.op=s at h ⊢
 rcases h with rfl | h
 ·rfl
 ·simp only [shL,List.mem_cons,List.not_mem_nil,or_false] at h
  rcases h with rfl | rfl | rfl | rfl | rfl | rfl | rfl | rfl | rfl | rfl | rfl | rfl | rfl <;>rfl
theorem next51(x:Ins)(at_:Int) :vr 51 0 [.t (insT x), .t (.int .i64 at_)] e0=some (numsV (nextL x at_),e0):=by
 unfold insT
 rw [eq51,R51,word63,callK_some,asTup_tup,consV_cons,asT_t,asS_str,consV_cons,asT_t,asS_str,endV_nil,endB_nil]
 unfold nextL
 by_cases hop:isOp x.op=true
 ·have ho:0≤x.op∧x.op<13:=by unfold isOp at hop; simpa using hop
  have hc:x.op=0∨x.op=1∨x.op=2∨x.op=3∨x.op=4∨x.op=5∨x.op=6∨x.op=7∨x.op=8∨x.op=9∨x.op=10∨x.op=11∨x.op=12:=by omega
  rcases hc with e | e | e | e | e | e | e | e | e | e | e | e | e <;>rw [e] <;>rfl
 ·have hop:isOp x.op=false:=by cases h:isOp x.op <;>simp_all
  have:shOf x.op=sh0:=by unfold shOf; rw [hop,cf]
  rw [this,hop]
  rfl
end Go.Proofs.Ytgkdkjjohknfpaa.VM
end
section
namespace Go.Proofs.Ytgkdkjjohknfpaa.VM
set_option linter.unusedSectionVars false
set_option linter.unusedVariables false
open Go AM
def limK(r a n k:Int) :Int:=bif decide (k=119) then r else bif decide (k=114) then r else bif decide (k=97) then a else bif decide (k=112) then n else 1
def letK(ks:List UInt8)(j:Nat) :Int:=bif decide (j<ks.length) then ((ks[j]?).getD 0).toNat else 32
section
variable (ks:List UInt8) (o a b c n r ar i:Int) (z:Bool) (l:List Ins)
theorem J60_12_spec(nb:Bool)(v k t:Int)(fz:Bool)(F:List T)(j:Nat)(hj:F[j]? =some (.int .i64 v))(ht:t=(j:Int))(hj2:j<3) :
  J60_12 ⟨⟨ks⟩⟩ fz F nb t k t o a b c n r ar i z (l.map insT)=bif fldOk v (limK r ar (l.length:Int) k) then L60_7 ⟨⟨ks⟩⟩ fz F (nb || decide (k=110)) ((j+1:Nat):Int) o a b c n r ar i z (l.map insT) else some (.t (.bool false),e0):=by
 subst ht
 have n0:decide ((0:Int)≤(j:Int))=true:=decide_eq_true (by omega)
 have hw:IntKind.i64.wrap ((j:Int)+1)=((j+1:Nat):Int):=by rw [wrap64 (by omega) (by omega)]; simp
 have h23:∀(nb':Bool) (m:Int),J60_23 ⟨⟨ks⟩⟩ fz F nb' (j:Int) m (j:Int) o a b c n r ar i z (l.map insT)=bif fldOk v m then L60_7 ⟨⟨ks⟩⟩ fz F nb' ((j+1:Nat):Int) o a b c n r ar i z (l.map insT) else some (.t (.bool false),e0):=by
  intro nb' m
  rw [J60_23_eq,RJ60_23,needC_true n0,Int.toNat_natCast,getT_at hj,asI_int]
  unfold fldOk
  by_cases h1:v<0
  ·rw [decide_eq_true h1,ct,decide_eq_false (by omega:¬0≤v)]; rfl
  ·rw [decide_eq_false h1,cf,needC_true n0,getT_at hj,asI_int,decide_eq_true (by omega:0≤v)]
   by_cases h2:m≤v
   ·rw [decide_eq_true h2,ct,decide_eq_false (by omega:¬v<m)]; rfl
   ·rw [decide_eq_false h2,cf,decide_eq_true (by omega:v<m),hw]; rfl
 have hl:((l.map insT).length:Int)=(l.length:Int):=by rw [List.length_map]
 rw [J60_12_eq,RJ60_12,h23,h23,h23,h23,hl]
 unfold limK
 by_cases e1:k=119
 ·rw [decide_eq_true e1,ct,ct,decide_eq_false (by omega:¬k=110),Bool.or_false]
 ·rw [decide_eq_false e1,cf,cf]
  by_cases e2:k=114
  ·rw [decide_eq_true e2,ct,ct,decide_eq_false (by omega:¬k=110),Bool.or_false]
  ·rw [decide_eq_false e2,cf,cf]
   by_cases e3:k=97
   ·rw [decide_eq_true e3,ct,ct,decide_eq_false (by omega:¬k=110),Bool.or_false]
   ·rw [decide_eq_false e3,cf,cf]
    by_cases e4:k=112
    ·rw [decide_eq_true e4,ct,ct,decide_eq_false (by omega:¬k=110),Bool.or_false]
    ·rw [decide_eq_false e4,cf,cf]
     by_cases e5:k=110
     ·rw [decide_eq_true e5,ct,Bool.or_true]
     ·rw [decide_eq_false e5,cf,h23,Bool.or_false]
theorem L60_7_step(nb:Bool)(v:Int)(fz:Bool)(F:List T)(j:Nat)(hj:F[j]? =some (.int .i64 v))(hj2:j<3) :
  L60_7 ⟨⟨ks⟩⟩ fz F nb (j:Int) o a b c n r ar i z (l.map insT)=bif fldOk v (limK r ar (l.length:Int) (letK ks j)) then L60_7 ⟨⟨ks⟩⟩ fz F (nb || decide (letK ks j=110)) ((j+1:Nat):Int) o a b c n r ar i z (l.map insT) else some (.t (.bool false),e0):=by
 have d:decide ((j:Int)<3)=true:=decide_eq_true (by omega)
 have n0:decide ((0:Int)≤(j:Int))=true:=decide_eq_true (by omega)
 rw [L60_7_eq,RL60_7,d,ct]
 by_cases h:j<ks.length
 ·have d2:decide ((j:Int)<((⟨⟨ks⟩⟩:ByteArray).size:Int))=true:=decide_eq_true (by rw [bytes_size]; omega)
  have hk:letK ks j=((ks[j]).toNat:Int):=by unfold letK; rw [decide_eq_true h,ct,List.getElem?_eq_getElem h]; rfl
  rw [d2,ct,n0,bTA,needC_t,Int.toNat_natCast,bytes_at h,hk]
  exact J60_12_spec ks o a b c n r ar i z l nb v _ (j:Int) fz F j hj rfl hj2
 ·have d2:decide ((j:Int)<((⟨⟨ks⟩⟩:ByteArray).size:Int))=false:=decide_eq_false (by rw [bytes_size]; omega)
  have hk:letK ks j=32:=by unfold letK; rw [decide_eq_false h,cf]
  rw [d2,cf,hk]
  exact J60_12_spec ks o a b c n r ar i z l nb v _ (j:Int) fz F j hj rfl hj2
end
theorem lim_let(s:Sh)(h:s=sh0∨s∈shL)(r a n:Int) :limK r a n (letK (kindsS s) 0)=lim r a n s.k0∧limK r a n (letK (kindsS s) 1)=lim r a n s.k1∧limK r a n (letK (kindsS s) 2)=lim r a n s.k2∧(((false || decide (letK (kindsS s) 0=110)) || decide (letK (kindsS s) 1=110)) || decide (letK (kindsS s) 2=110))=decide (s.k1=5):=by
 rcases h with rfl | h
 ·exact ⟨rfl,rfl,rfl,rfl⟩
 ·simp only [shL,List.mem_cons,List.not_mem_nil,or_false] at h
  rcases h with rfl | rfl | rfl | rfl | rfl | rfl | rfl | rfl | rfl | rfl | rfl | rfl | rfl <;>exact ⟨rfl,rfl,rfl,rfl⟩
theorem word_op(op:Int) :decide ((⟨⟨(shOf op).w⟩⟩:ByteArray)=⟨#[]⟩)= !isOp op:=by
 rcases sh_cases op with h | h
 ·rw [h.2,h.1]; rfl
 ·rw [h.1]
  have h:=h.2
  generalize shOf op=s at h ⊢
  simp only [shL,List.mem_cons,List.not_mem_nil,or_false] at h
  rcases h with rfl | rfl | rfl | rfl | rfl | rfl | rfl | rfl | rfl | rfl | rfl | rfl | rfl <;>rfl
theorem may60(x:Ins)(r a i:Int)(z:Bool)(l:List Ins) :vr 60 0 [.t (insT x), .t (cdT r a i z l)] e0=some (.t (.bool (mayB r a (l.length:Int) x)),e0):=by
 obtain ⟨h1,h2,h3,h4⟩:=lim_let (shOf x.op) (sh_or x.op) r a (l.length:Int)
 have s0:=fun nb=>L60_7_step (kindsS (shOf x.op)) x.op x.a x.b x.c x.n r a i z l nb x.a true (ints [x.a,x.b,x.c]) 0 rfl (by omega)
 have s1:=fun nb=>L60_7_step (kindsS (shOf x.op)) x.op x.a x.b x.c x.n r a i z l nb x.b true (ints [x.a,x.b,x.c]) 1 rfl (by omega)
 have s2:=fun nb=>L60_7_step (kindsS (shOf x.op)) x.op x.a x.b x.c x.n r a i z l nb x.c true (ints [x.a,x.b,x.c]) 2 rfl (by omega)
 have h00:((0:Nat):Int)=0:=rfl
 rw [h00] at s0
 unfold insT cdT
 rw [eq60,R60,word63,callK_some,asTup_tup,consV_cons,asT_t,asS_str,consV_cons,asT_t,asS_str,endV_nil,endB_nil,word_op]
 unfold mayB
 cases isOp x.op with
 | false=>rfl
 | true=>
  rw [bNT,cf,eq64,R64,callK_some,asT_t,asL_list,endB_nil]
  show L60_7 _ true (ints [x.a,x.b,x.c]) false 0 x.op x.a x.b x.c x.n r a i z (l.map insT)=_
  rw [s0,s1,s2,h1,h2,h3,h4,bTA]
  cases fldOk x.a (lim r a (l.length:Int) (shOf x.op).k0) with
  | false=>rw [cf,bFA]
  | true=>
   rw [ct,bTA]
   cases fldOk x.b (lim r a (l.length:Int) (shOf x.op).k1) with
   | false=>rw [cf,bFA]
   | true=>
    rw [ct,bTA]
    cases fldOk x.c (lim r a (l.length:Int) (shOf x.op).k2) with
    | false=>rw [cf,bFA]
    | true=>
     have d:decide (((2+1:Nat):Int)<3)=false:=rfl
     rw [ct,bTA,L60_7_eq,RL60_7,d,cf]
     cases decide ((shOf x.op).k1=5) with
     | false=>rw [bNF,ct,cf]
     | true=>
      rw [bNT,cf,ct]
      cases decide ((-1000000000000000000)<x.n) with
      | false=>rw [cf,bFA]
      | true=>rw [ct,bTA]
theorem L46_3_spec(r a i:Int)(z z2:Bool)(L:List Ins)(hb:L.length≤9223372036854775806) :∀(m j:Nat) (ok:Bool),m+j=L.length→
  L46_3 ok z2 (L.map insT) ((L.map insT).length:Int) (j:Int) r a i z (L.map insT)=L46_3 (ok &&(L.drop j).all (mayB r a (L.length:Int))) z2 (L.map insT) ((L.map insT).length:Int) ((L.map insT).length:Int) r a i z (L.map insT)
 | 0,j,ok,h=>by
  have:((L.map insT).length:Int)=(j:Int):=by rw [List.length_map]; omega
  rw [List.drop_of_length_le (by omega),this,List.all_nil,Bool.and_true]
 | m+1,j,ok,h=>by
  have hlt:j<L.length:=by omega
  have d:decide ((j:Int)<((L.map insT).length:Int))=true:=decide_eq_true (by rw [List.length_map]; omega)
  have n0:decide ((0:Int)≤(j:Int))=true:=decide_eq_true (by omega)
  have hw:IntKind.i64.wrap ((j:Int)+1)=((j+1:Nat):Int):=by rw [wrap64 (by omega) (by omega)]; simp
  have hm:=may60 L[j] r a i z L
  have ih:=fun ok'=>L46_3_spec r a i z z2 L hb m (j+1) ok' (by omega)
  have hi2:insT L[j]= .agg [.int .i64 (L[j]).op, .int .i64 (L[j]).a, .int .i64 (L[j]).b, .int .i64 (L[j]).c, .int .i64 (L[j]).n]:=rfl
  unfold cdT at hm
  rw [hi2] at hm
  conv=>lhs; rw [L46_3_eq,RL46_3,d,ct,needC_true n0,Int.toNat_natCast,ins_at hlt,hi2,asA_agg,consT_cons,asI_int,consT_cons,asI_int,consT_cons,asI_int,consT_cons,asI_int,consT_cons,asI_int,endT_nil,hw]
  rw [List.drop_eq_getElem_cons hlt,List.all_cons]
  cases ok with
  | false=>rw [cf,ih,bFA,bFA]
  | true=>rw [ct,hm,callK_some,asT_t,asB_bool,endB_nil,ih,bTA]
theorem check46(r a i:Int)(z:Bool)(L:List Ins)(hb:L.length≤9223372036854775806) :vr 46 0 [.t (cdT r a i z L)] e0=some (.t (.int .i64 (bif checkB r a i L then 0 else 1)),e0):=by
 have hs:=fun ok=>L46_3_spec r a i z z L hb L.length 0 ok (by omega)
 have h00:((0:Nat):Int)=0:=rfl
 rw [h00,List.drop_zero] at hs
 have hlen:((L.map insT).length:Int)=(L.length:Int):=by rw [List.length_map]
 have dl:decide (((L.map insT).length:Int)<((L.map insT).length:Int))=false:=decide_eq_false (by omega)
 have hend:L46_3 false z (L.map insT) ((L.map insT).length:Int) ((L.map insT).length:Int) r a i z (L.map insT)=some (.t (.int .i64 1),e0):=by
  rw [L46_3_eq,RL46_3,dl,cf]
  rfl
 have hfalse:L46_3 false z (L.map insT) ((L.map insT).length:Int) 0 r a i z (L.map insT)=some (.t (.int .i64 1),e0):=by
  rw [hs,bFA]; exact hend
 unfold cdT
 rw [eq46,R46]
 cases hc:checkB r a i L with
 | true=>
  have h:=(check_iff r a i L).1 hc
  have hl1:=h.len0
  have hl2:=h.len
  have hall:L.all (mayB r a (L.length:Int))=true:=List.all_eq_true.2 h.may
  rw [decide_eq_true h.r0,ct,decide_eq_true h.r1,ct,decide_eq_true h.a0,ct,decide_eq_true h.a1,ct,decide_eq_true h.i0,ct,decide_eq_true h.i1,ct,hlen,decide_eq_true (by omega:(1:Int)≤(L.length:Int)),ct,decide_eq_true (by omega:(L.length:Int)≤4096),←hlen,hs,hall,bTA]
  have hw:IntKind.i64.wrap ((L.length:Int) - 1)=((L.length - 1:Nat):Int):=by rw [wrap64 (by omega) (by omega)]; omega
  have hlt:L.length - 1<L.length:=by omega
  have n0:decide ((0:Int)≤((L.length - 1:Nat):Int))=true:=decide_eq_true (by omega)
  have hi2:insT L[L.length - 1]= .agg [.int .i64 (L[L.length - 1]).op, .int .i64 (L[L.length - 1]).a, .int .i64 (L[L.length - 1]).b, .int .i64 (L[L.length - 1]).c, .int .i64 (L[L.length - 1]).n]:=rfl
  have hlast:=h.last L[L.length - 1] (by rw [List.getLast?_eq_getElem?]; exact List.getElem?_eq_getElem hlt)
  rw [L46_3_eq,RL46_3,dl,cf,bNT,cf,hlen,hw,needC_true n0,Int.toNat_natCast,ins_at hlt,hi2,asA_agg,consT_cons,asI_int,consT_cons,asI_int,consT_cons,asI_int,consT_cons,asI_int,consT_cons,asI_int,endT_nil]
  rcases hlast with e | e <;>rw [e] <;>rfl
 | false=>
  rw [cf]
  by_cases b1:0≤r
  ·rw [decide_eq_true b1,ct]
   by_cases b2:r≤128
   ·rw [decide_eq_true b2,ct]
    by_cases b3:0≤a
    ·rw [decide_eq_true b3,ct]
     by_cases b4:a≤128
     ·rw [decide_eq_true b4,ct]
      by_cases b5:0≤i
      ·rw [decide_eq_true b5,ct]
       by_cases b6:i≤a
       ·rw [decide_eq_true b6,ct,hlen]
        by_cases b7:(1:Int)≤(L.length:Int)
        ·rw [decide_eq_true b7,ct,←hlen,hs]
         by_cases b8:((L.map insT).length:Int)≤4096
         ·rw [decide_eq_true b8,bTA]
          cases hall:L.all (mayB r a (L.length:Int)) with
          | false=>exact hend
          | true=>
           have hw:IntKind.i64.wrap ((L.length:Int) - 1)=((L.length - 1:Nat):Int):=by rw [wrap64 (by omega) (by omega)]; omega
           have hlt:L.length - 1<L.length:=by omega
           have n0:decide ((0:Int)≤((L.length - 1:Nat):Int))=true:=decide_eq_true (by omega)
           have hi2:insT L[L.length - 1]= .agg [.int .i64 (L[L.length - 1]).op, .int .i64 (L[L.length - 1]).a, .int .i64 (L[L.length - 1]).b, .int .i64 (L[L.length - 1]).c, .int .i64 (L[L.length - 1]).n]:=rfl
           rw [L46_3_eq,RL46_3,dl,cf,bNT,cf,hlen,hw,needC_true n0,Int.toNat_natCast,ins_at hlt,hi2,asA_agg,consT_cons,asI_int,consT_cons,asI_int,consT_cons,asI_int,consT_cons,asI_int,consT_cons,asI_int,endT_nil]
           by_cases e0:L[L.length - 1].op=0
           ·exfalso
            have:Okc r a i L:=⟨b1,b2,b3,b4,b5,b6,by omega,by omega,List.all_eq_true.1 hall,fun x hx=>by
             rw [List.getLast?_eq_getElem?,List.getElem?_eq_getElem hlt] at hx
             cases hx
             exact .inl e0⟩
            rw [(check_iff r a i L).2 this] at hc
            cases hc
           ·rw [decide_eq_false e0,bNF,ct]
            by_cases e10:L[L.length - 1].op=10
            ·exfalso
             have:Okc r a i L:=⟨b1,b2,b3,b4,b5,b6,by omega,by omega,List.all_eq_true.1 hall,fun x hx=>by
              rw [List.getLast?_eq_getElem?,List.getElem?_eq_getElem hlt] at hx
              cases hx
              exact .inr e10⟩
             rw [(check_iff r a i L).2 this] at hc
             cases hc
            ·rw [decide_eq_false e10,bNF,ct]
         ·rw [decide_eq_false b8,bFA]; exact hend
        ·rw [decide_eq_false b7,cf,←hlen]; exact hfalse
       ·rw [decide_eq_false b6,cf]; exact hfalse
      ·rw [decide_eq_false b5,cf]; exact hfalse
     ·rw [decide_eq_false b4,cf]; exact hfalse
    ·rw [decide_eq_false b3,cf]; exact hfalse
   ·rw [decide_eq_false b2,cf]; exact hfalse
  ·rw [decide_eq_false b1,cf]; exact hfalse
end Go.Proofs.Ytgkdkjjohknfpaa.VM
end
