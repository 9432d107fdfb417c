/- Merged: Rr00 Rr0 Rr1. Conditions: none. -/
import Derived.Test.YtifkgdmiojnllaaLr
import Derived.Test.YtifkgdmiojnllaaRd
set_option linter.all false
section
namespace Go.Proofs.Ytifkgdmiojnllaa.VM
set_option linter.unusedSectionVars false
open Go AM
set_option linter.unusedVariables false
set_option linter.unusedSimpArgs false
abbrev ints(l:List Int) :List T:=l.map (.int .i64 ·)
structure Okc (r a i:Int) (l:List Ins):Prop where
 r0:0≤r
 r1:r≤128
 a0:0≤a
 a1:a≤128
 i0:0≤i
 i1:i≤a
 len0:l.length ≠0
 len:l.length≤4096
 may:∀x∈l,mayB r a (l.length:Int) x=true
 last:∀x,l.getLast? =some x→x.op=0∨x.op=10
theorem check_iff(r a i:Int)(l:List Ins) :checkB r a i l=true↔Okc r a i l:=by
 unfold checkB
 simp only [Bool.and_eq_true,decide_eq_true_eq,Bool.not_eq_true',decide_eq_false_iff_not,List.all_eq_true]
 constructor
 ·rintro ⟨h1,h2,h3,h4,h5,h6,h7,h8,h9,h10⟩
  refine ⟨h1,h2,h3,h4,h5,h6,h7,h8,h9,fun x hx=> ?_⟩
  rw [hx] at h10
  simpa using h10
 ·rintro ⟨h1,h2,h3,h4,h5,h6,h7,h8,h9,h10⟩
  refine ⟨h1,h2,h3,h4,h5,h6,h7,h8,h9, ?_⟩
  cases hl:l.getLast? with
  | none=>rw [List.getLast?_eq_none_iff] at hl; subst hl; simp at h7
  | some x=>simpa using h10 x hl
end Go.Proofs.Ytifkgdmiojnllaa.VM
end
section
namespace Go.Proofs.Ytifkgdmiojnllaa.VM
set_option linter.unusedSectionVars false
open Go AM
set_option linter.unusedVariables false
set_option linter.unusedSimpArgs false
def klL(k:Int) :List UInt8:=bif decide (k=1) then [119] else bif decide (k=2) then [114] else bif decide (k=3) then [97] else bif decide (k=4) then [112] else bif decide (k=5) then [110] else []
def kindsS(s:Sh) :List UInt8:=klL s.k0++(klL s.k1++klL s.k2)
theorem word63(op:Int) :vr 48 0 [.t (.int .i64 op)] e0=some (.tup [.t (.str ⟨⟨(shOf op).w⟩⟩), .t (.str ⟨⟨kindsS (shOf op)⟩⟩)],e0):=by
 rw [eq48,R48]
 by_cases h0:op<0
 ·have:isOp op=false:=by unfold isOp; rw [decide_eq_false (by omega:¬0≤op)]; rfl
  unfold shOf
  rw [decide_eq_true h0,ct,this,cf]
  rfl
 ·rw [decide_eq_false h0,cf]
  by_cases h1:13≤op
  ·have:isOp op=false:=by unfold isOp; rw [decide_eq_false (by omega:¬op<13),bAF]
   unfold shOf
   rw [decide_eq_true h1,ct,this,cf]
   rfl
  ·have hc:op=0∨op=1∨op=2∨op=3∨op=4∨op=5∨op=6∨op=7∨op=8∨op=9∨op=10∨op=11∨op=12:=by omega
   rcases hc with rfl | rfl | rfl | rfl | rfl | rfl | rfl | rfl | rfl | rfl | rfl | rfl | rfl <;>rfl
theorem sh_all{p:Sh→Prop}(h0:p sh0)(h:∀s∈shL,p s)(op:Int) :p (shOf op):=by
 rcases sh_cases op with h1 | h1
 ·rw [h1.2]; exact h0
 ·exact h _ h1.2
theorem kinds_len(op:Int) :(kindsS (shOf op)).length≤3:=by
 refine sh_all (p:=fun s=>(kindsS s).length≤3) (by decide) (by decide) op
theorem bytes_size(ks:List UInt8) :(⟨⟨ks⟩⟩:ByteArray).size=ks.length:=rfl
theorem bytes_at{ks:List UInt8}{j:Nat}(h:j<ks.length) :(⟨⟨ks⟩⟩:ByteArray)[j]! =ks[j]:=byte_at (s:=⟨⟨ks⟩⟩) h
theorem sh_or(op:Int) :shOf op=sh0∨shOf op∈shL:=by
 rcases sh_cases op with h | h
 ·exact .inl h.2
 ·exact .inr h.2
def limK(r a n k:Int) :Int:=bif decide (k=119) then r else bif decide (k=114) then r else bif decide (k=97) then a else bif decide (k=112) then n else 1
def letK(ks:List UInt8)(j:Nat) :Int:=bif decide (j<ks.length) then ((ks[j]?).getD 0).toNat else 32
section
variable (ks:List UInt8) (o a b c n r ar i:Int) (z:Bool) (l:List Ins)
theorem J60_12_spec(nb:Bool)(v k t:Int)(fz:Bool)(F:List T)(j:Nat)(hj:F[j]? =some (.int .i64 v))(ht:t=(j:Int))(hj2:j<3) :
  J50_12 ⟨⟨ks⟩⟩ fz F nb t k t o a b c n r ar i z (l.map insT)=bif fldOk v (limK r ar (l.length:Int) k) then L50_7 ⟨⟨ks⟩⟩ fz F (nb || decide (k=110)) ((j+1:Nat):Int) o a b c n r ar i z (l.map insT) else some (.t (.bool false),e0):=by
 subst ht
 have n0:decide ((0:Int)≤(j:Int))=true:=decide_eq_true (by omega)
 have hw:IntKind.i64.wrap ((j:Int)+1)=((j+1:Nat):Int):=by rw [wrap64 (by omega) (by omega)]; simp
 have h23:∀(nb':Bool) (m:Int),J50_23 ⟨⟨ks⟩⟩ fz F nb' (j:Int) m (j:Int) o a b c n r ar i z (l.map insT)=bif fldOk v m then L50_7 ⟨⟨ks⟩⟩ fz F nb' ((j+1:Nat):Int) o a b c n r ar i z (l.map insT) else some (.t (.bool false),e0):=by
  intro nb' m
  rw [J50_23_eq,RJ50_23,needC_true n0,Int.toNat_natCast,getT_at hj,asI_int]
  unfold fldOk
  by_cases h1:v<0
  ·rw [decide_eq_true h1,ct,decide_eq_false (by omega:¬0≤v)]; rfl
  ·rw [decide_eq_false h1,cf,needC_true n0,getT_at hj,asI_int,decide_eq_true (by omega:0≤v)]
   by_cases h2:m≤v
   ·rw [decide_eq_true h2,ct,decide_eq_false (by omega:¬v<m)]; rfl
   ·rw [decide_eq_false h2,cf,decide_eq_true (by omega:v<m),hw]; rfl
 have hl:((l.map insT).length:Int)=(l.length:Int):=by rw [List.length_map]
 rw [J50_12_eq,RJ50_12,h23,h23,h23,h23,hl]
 unfold limK
 by_cases e1:k=119
 ·rw [decide_eq_true e1,ct,ct,decide_eq_false (by omega:¬k=110),Bool.or_false]
 ·rw [decide_eq_false e1,cf,cf]
  by_cases e2:k=114
  ·rw [decide_eq_true e2,ct,ct,decide_eq_false (by omega:¬k=110),Bool.or_false]
  ·rw [decide_eq_false e2,cf,cf]
   by_cases e3:k=97
   ·rw [decide_eq_true e3,ct,ct,decide_eq_false (by omega:¬k=110),Bool.or_false]
   ·rw [decide_eq_false e3,cf,cf]
    by_cases e4:k=112
    ·rw [decide_eq_true e4,ct,ct,decide_eq_false (by omega:¬k=110),Bool.or_false]
    ·rw [decide_eq_false e4,cf,cf]
     by_cases e5:k=110
     ·rw [decide_eq_true e5,ct,Bool.or_true]
     ·rw [decide_eq_false e5,cf,h23,Bool.or_false]
theorem L60_7_step(nb:Bool)(v:Int)(fz:Bool)(F:List T)(j:Nat)(hj:F[j]? =some (.int .i64 v))(hj2:j<3) :
  L50_7 ⟨⟨ks⟩⟩ fz F nb (j:Int) o a b c n r ar i z (l.map insT)=bif fldOk v (limK r ar (l.length:Int) (letK ks j)) then L50_7 ⟨⟨ks⟩⟩ fz F (nb || decide (letK ks j=110)) ((j+1:Nat):Int) o a b c n r ar i z (l.map insT) else some (.t (.bool false),e0):=by
 have d:decide ((j:Int)<3)=true:=decide_eq_true (by omega)
 have n0:decide ((0:Int)≤(j:Int))=true:=decide_eq_true (by omega)
 rw [L50_7_eq,RL50_7,d,ct]
 by_cases h:j<ks.length
 ·have d2:decide ((j:Int)<((⟨⟨ks⟩⟩:ByteArray).size:Int))=true:=decide_eq_true (by rw [bytes_size]; omega)
  have hk:letK ks j=((ks[j]).toNat:Int):=by unfold letK; rw [decide_eq_true h,ct,List.getElem?_eq_getElem h]; rfl
  rw [d2,ct,n0,bTA,needC_t,Int.toNat_natCast,bytes_at h,hk]
  exact J60_12_spec ks o a b c n r ar i z l nb v _ (j:Int) fz F j hj rfl hj2
 ·have d2:decide ((j:Int)<((⟨⟨ks⟩⟩:ByteArray).size:Int))=false:=decide_eq_false (by rw [bytes_size]; omega)
  have hk:letK ks j=32:=by unfold letK; rw [decide_eq_false h,cf]
  rw [d2,cf,hk]
  exact J60_12_spec ks o a b c n r ar i z l nb v _ (j:Int) fz F j hj rfl hj2
end
theorem lim_let(s:Sh)(h:s=sh0∨s∈shL)(r a n:Int) :limK r a n (letK (kindsS s) 0)=lim r a n s.k0∧limK r a n (letK (kindsS s) 1)=lim r a n s.k1∧limK r a n (letK (kindsS s) 2)=lim r a n s.k2∧(((false || decide (letK (kindsS s) 0=110)) || decide (letK (kindsS s) 1=110)) || decide (letK (kindsS s) 2=110))=decide (s.k1=5):=by
 rcases h with rfl | h
 ·exact ⟨rfl,rfl,rfl,rfl⟩
 ·simp only [shL,List.mem_cons,List.not_mem_nil,or_false] at h
  rcases h with rfl | rfl | rfl | rfl | rfl | rfl | rfl | rfl | rfl | rfl | rfl | rfl | rfl <;>exact ⟨rfl,rfl,rfl,rfl⟩
theorem word_op(op:Int) :decide ((⟨⟨(shOf op).w⟩⟩:ByteArray)=⟨#[]⟩)= !isOp op:=by
 rcases sh_cases op with h | h
 ·rw [h.2,h.1]; rfl
 ·rw [h.1]
  have h:=h.2
  generalize shOf op=s at h ⊢
  simp only [shL,List.mem_cons,List.not_mem_nil,or_false] at h
  rcases h with rfl | rfl | rfl | rfl | rfl | rfl | rfl | rfl | rfl | rfl | rfl | rfl | rfl <;>rfl
theorem may60(x:Ins)(r a i:Int)(z:Bool)(l:List Ins) :vr 50 0 [.t (insT x), .t (cdT r a i z l)] e0=some (.t (.bool (mayB r a (l.length:Int) x)),e0):=by
 obtain ⟨h1,h2,h3,h4⟩:=lim_let (shOf x.op) (sh_or x.op) r a (l.length:Int)
 have s0:=fun nb=>L60_7_step (kindsS (shOf x.op)) x.op x.a x.b x.c x.n r a i z l nb x.a true (ints [x.a,x.b,x.c]) 0 rfl (by omega)
 have s1:=fun nb=>L60_7_step (kindsS (shOf x.op)) x.op x.a x.b x.c x.n r a i z l nb x.b true (ints [x.a,x.b,x.c]) 1 rfl (by omega)
 have s2:=fun nb=>L60_7_step (kindsS (shOf x.op)) x.op x.a x.b x.c x.n r a i z l nb x.c true (ints [x.a,x.b,x.c]) 2 rfl (by omega)
 have h00:((0:Nat):Int)=0:=rfl
 rw [h00] at s0
 unfold insT cdT
 rw [eq50,R50,word63,callK_some,asTup_tup,consV_cons,asT_t,asS_str,consV_cons,asT_t,asS_str,endV_nil,endB_nil,word_op]
 unfold mayB
 cases isOp x.op with
 | false=>rfl
 | true=>
  rw [bNT,cf,eq49,R49,callK_some,asT_t,asL_list,endB_nil]
  show L50_7 _ true (ints [x.a,x.b,x.c]) false 0 x.op x.a x.b x.c x.n r a i z (l.map insT)=_
  rw [s0,s1,s2,h1,h2,h3,h4,bTA]
  cases fldOk x.a (lim r a (l.length:Int) (shOf x.op).k0) with
  | false=>rw [cf,bFA]
  | true=>
   rw [ct,bTA]
   cases fldOk x.b (lim r a (l.length:Int) (shOf x.op).k1) with
   | false=>rw [cf,bFA]
   | true=>
    rw [ct,bTA]
    cases fldOk x.c (lim r a (l.length:Int) (shOf x.op).k2) with
    | false=>rw [cf,bFA]
    | true=>
     have d:decide (((2+1:Nat):Int)<3)=false:=rfl
     rw [ct,bTA,L50_7_eq,RL50_7,d,cf]
     cases decide ((shOf x.op).k1=5) with
     | false=>rw [bNF,ct,cf]
     | true=>
      rw [bNT,cf,ct]
      cases decide ((-1000000000000000000)<x.n) with
      | false=>rw [cf,bFA]
      | true=>rw [ct,bTA]
theorem L46_3_spec(r a i:Int)(z z2:Bool)(L:List Ins)(hb:L.length≤9223372036854775806) :∀(m j:Nat) (ok:Bool),m+j=L.length→
  L27_3 ok z2 (L.map insT) ((L.map insT).length:Int) (j:Int) r a i z (L.map insT)=L27_3 (ok &&(L.drop j).all (mayB r a (L.length:Int))) z2 (L.map insT) ((L.map insT).length:Int) ((L.map insT).length:Int) r a i z (L.map insT)
 | 0,j,ok,h=>by
  have:((L.map insT).length:Int)=(j:Int):=by rw [List.length_map]; omega
  rw [List.drop_of_length_le (by omega),this,List.all_nil,Bool.and_true]
 | m+1,j,ok,h=>by
  have hlt:j<L.length:=by omega
  have d:decide ((j:Int)<((L.map insT).length:Int))=true:=decide_eq_true (by rw [List.length_map]; omega)
  have n0:decide ((0:Int)≤(j:Int))=true:=decide_eq_true (by omega)
  have hw:IntKind.i64.wrap ((j:Int)+1)=((j+1:Nat):Int):=by rw [wrap64 (by omega) (by omega)]; simp
  have hm:=may60 L[j] r a i z L
  have ih:=fun ok'=>L46_3_spec r a i z z2 L hb m (j+1) ok' (by omega)
  have hi2:insT L[j]= .agg [.int .i64 (L[j]).op, .int .i64 (L[j]).a, .int .i64 (L[j]).b, .int .i64 (L[j]).c, .int .i64 (L[j]).n]:=rfl
  unfold cdT at hm
  rw [hi2] at hm
  conv=>lhs; rw [L27_3_eq,RL27_3,d,ct,needC_true n0,Int.toNat_natCast,ins_at hlt,hi2,asA_agg,consT_cons,asI_int,consT_cons,asI_int,consT_cons,asI_int,consT_cons,asI_int,consT_cons,asI_int,endT_nil,hw]
  rw [List.drop_eq_getElem_cons hlt,List.all_cons]
  cases ok with
  | false=>rw [cf,ih,bFA,bFA]
  | true=>rw [ct,hm,callK_some,asT_t,asB_bool,endB_nil,ih,bTA]
theorem check46(r a i:Int)(z:Bool)(L:List Ins)(hb:L.length≤9223372036854775806) :vr 27 0 [.t (cdT r a i z L)] e0=some (.t (.int .i64 (bif checkB r a i L then 0 else 1)),e0):=by
 have hs:=fun ok=>L46_3_spec r a i z z L hb L.length 0 ok (by omega)
 have h00:((0:Nat):Int)=0:=rfl
 rw [h00,List.drop_zero] at hs
 have hlen:((L.map insT).length:Int)=(L.length:Int):=by rw [List.length_map]
 have dl:decide (((L.map insT).length:Int)<((L.map insT).length:Int))=false:=decide_eq_false (by omega)
 have hend:L27_3 false z (L.map insT) ((L.map insT).length:Int) ((L.map insT).length:Int) r a i z (L.map insT)=some (.t (.int .i64 1),e0):=by
  rw [L27_3_eq,RL27_3,dl,cf]
  rfl
 have hfalse:L27_3 false z (L.map insT) ((L.map insT).length:Int) 0 r a i z (L.map insT)=some (.t (.int .i64 1),e0):=by
  rw [hs,bFA]; exact hend
 unfold cdT
 rw [eq27,R27]
 cases hc:checkB r a i L with
 | true=>
  have h:=(check_iff r a i L).1 hc
  have hl1:=h.len0
  have hl2:=h.len
  have hall:L.all (mayB r a (L.length:Int))=true:=List.all_eq_true.2 h.may
  rw [decide_eq_true h.r0,ct,decide_eq_true h.r1,ct,decide_eq_true h.a0,ct,decide_eq_true h.a1,ct,decide_eq_true h.i0,ct,decide_eq_true h.i1,ct,hlen,decide_eq_true (by omega:(1:Int)≤(L.length:Int)),ct,decide_eq_true (by omega:(L.length:Int)≤4096),←hlen,hs,hall,bTA]
  have hw:IntKind.i64.wrap ((L.length:Int) - 1)=((L.length - 1:Nat):Int):=by rw [wrap64 (by omega) (by omega)]; omega
  have hlt:L.length - 1<L.length:=by omega
  have n0:decide ((0:Int)≤((L.length - 1:Nat):Int))=true:=decide_eq_true (by omega)
  have hi2:insT L[L.length - 1]= .agg [.int .i64 (L[L.length - 1]).op, .int .i64 (L[L.length - 1]).a, .int .i64 (L[L.length - 1]).b, .int .i64 (L[L.length - 1]).c, .int .i64 (L[L.length - 1]).n]:=rfl
  have hlast:=h.last L[L.length - 1] (by rw [List.getLast?_eq_getElem?]; exact List.getElem?_eq_getElem hlt)
  rw [L27_3_eq,RL27_3,dl,cf,bNT,cf,hlen,hw,needC_true n0,Int.toNat_natCast,ins_at hlt,hi2,asA_agg,consT_cons,asI_int,consT_cons,asI_int,consT_cons,asI_int,consT_cons,asI_int,consT_cons,asI_int,endT_nil]
  rcases hlast with e | e <;>rw [e] <;>rfl
 | false=>
  rw [cf]
  by_cases b1:0≤r
  ·rw [decide_eq_true b1,ct]
   by_cases b2:r≤128
   ·rw [decide_eq_true b2,ct]
    by_cases b3:0≤a
    ·rw [decide_eq_true b3,ct]
     by_cases b4:a≤128
     ·rw [decide_eq_true b4,ct]
      by_cases b5:0≤i
      ·rw [decide_eq_true b5,ct]
       by_cases b6:i≤a
       ·rw [decide_eq_true b6,ct,hlen]
        by_cases b7:(1:Int)≤(L.length:Int)
        ·rw [decide_eq_true b7,ct,←hlen,hs]
         by_cases b8:((L.map insT).length:Int)≤4096
         ·rw [decide_eq_true b8,bTA]
          cases hall:L.all (mayB r a (L.length:Int)) with
          | false=>exact hend
          | true=>
           have hw:IntKind.i64.wrap ((L.length:Int) - 1)=((L.length - 1:Nat):Int):=by rw [wrap64 (by omega) (by omega)]; omega
           have hlt:L.length - 1<L.length:=by omega
           have n0:decide ((0:Int)≤((L.length - 1:Nat):Int))=true:=decide_eq_true (by omega)
           have hi2:insT L[L.length - 1]= .agg [.int .i64 (L[L.length - 1]).op, .int .i64 (L[L.length - 1]).a, .int .i64 (L[L.length - 1]).b, .int .i64 (L[L.length - 1]).c, .int .i64 (L[L.length - 1]).n]:=rfl
           rw [L27_3_eq,RL27_3,dl,cf,bNT,cf,hlen,hw,needC_true n0,Int.toNat_natCast,ins_at hlt,hi2,asA_agg,consT_cons,asI_int,consT_cons,asI_int,consT_cons,asI_int,consT_cons,asI_int,consT_cons,asI_int,endT_nil]
           by_cases e0:L[L.length - 1].op=0
           ·exfalso
            have:Okc r a i L:=⟨b1,b2,b3,b4,b5,b6,by omega,by omega,List.all_eq_true.1 hall,fun x hx=>by
             rw [List.getLast?_eq_getElem?,List.getElem?_eq_getElem hlt] at hx
             cases hx
             exact .inl e0⟩
            rw [(check_iff r a i L).2 this] at hc
            cases hc
           ·rw [decide_eq_false e0,bNF,ct]
            by_cases e10:L[L.length - 1].op=10
            ·exfalso
             have:Okc r a i L:=⟨b1,b2,b3,b4,b5,b6,by omega,by omega,List.all_eq_true.1 hall,fun x hx=>by
              rw [List.getLast?_eq_getElem?,List.getElem?_eq_getElem hlt] at hx
              cases hx
              exact .inr e10⟩
             rw [(check_iff r a i L).2 this] at hc
             cases hc
            ·rw [decide_eq_false e10,bNF,ct]
         ·rw [decide_eq_false b8,bFA]; exact hend
        ·rw [decide_eq_false b7,cf,←hlen]; exact hfalse
       ·rw [decide_eq_false b6,cf]; exact hfalse
      ·rw [decide_eq_false b5,cf]; exact hfalse
     ·rw [decide_eq_false b4,cf]; exact hfalse
    ·rw [decide_eq_false b3,cf]; exact hfalse
   ·rw [decide_eq_false b2,cf]; exact hfalse
  ·rw [decide_eq_false b1,cf]; exact hfalse
end Go.Proofs.Ytifkgdmiojnllaa.VM
end
section
namespace Go.Proofs.Ytifkgdmiojnllaa.VM
set_option linter.unusedSectionVars false
set_option linter.unusedVariables false
open Go AM
theorem nat64{j:Nat}(h:j<9223372036854775806) :IntKind.i64.wrap ((j:Int)+1)=((j+1:Nat):Int):=by rw [wrap64 (by omega) (by omega)]; simp
def Real(x:T) :Prop:=∃s k v,x=tokT s k v∧((k=4∧s=ByteArray.empty∧v=0)∨tok s.data.toList=some (k,v))
theorem Real.tok{x:T}(h:Real x) :IsTok x:=by
 obtain ⟨s,k,v,h,_⟩:=h
 exact ⟨s,k,v,h⟩
theorem cutS_real :∀(f:Nat) (l:List UInt8) (pos:Nat) (line:Bool) (out:List T),(∀x∈out,Real x)→∀out',cutS f l pos line out= .ok out'→∀x∈out',Real x
 | 0,l,pos,line,out,h,out',he=>by cases he
 | f+1,l,pos,line,out,h,out',he=>by
  unfold cutS at he
  cases l with
  | nil=>cases he; exact h
  | cons b t=>
   dsimp only at he
   cases h10:decide (b=10) <;>rw [h10] at he <;>simp only [cond_true,cond_false] at he
   ·cases hb:decide (b=32) || decide (b=9) <;>rw [hb] at he <;>simp only [cond_true,cond_false] at he
    ·cases h35:decide (b=35) <;>rw [h35] at he <;>simp only [cond_true,cond_false] at he
     ·split at he
      ·cases he
      ·rename_i k n heq
       refine cutS_real f _ _ _ _ (fun x hx=> ?_) _ he
       rcases List.mem_append.1 hx with hx | hx
       ·cases hl:line && !out.isEmpty <;>rw [hl] at hx <;>simp only [cond_true,cond_false] at hx
        ·exact h x hx
        ·rcases List.mem_append.1 hx with hx | hx
         ·exact h x hx
         ·have:x=lineT:=by simpa using hx
          exact ⟨ByteArray.empty,4,0,this, .inl ⟨rfl,rfl,rfl⟩⟩
       ·have:=List.mem_singleton.1 hx
        exact ⟨_,k,n,this, .inr heq⟩
     ·exact cutS_real f _ _ _ _ h _ he
    ·exact cutS_real f _ _ _ _ h _ he
   ·exact cutS_real f _ _ _ _ h _ he
theorem rowC_at3{R:Type}{l:List RowV}{i:Nat}{nn:Bool}{c:List T}{K:Bool→List T→Option R}(h:l[i]? =some (RowV.own nn c)) :rowC l i K=K nn c:=by
 unfold rowC
 rw [h]
def rw3(l:List T) :RowV:=RowV.own (!l.isEmpty) l
def rt3(l:List T) :T:= .list 3 (!l.isEmpty) l
def joinF(cur rest:List T) :List (List T):=match splitL rest with | p::ps=>(cur++p)::ps | []=>[cur]
theorem joinF_nil(cur:List T) :joinF cur []=[cur]:=by unfold joinF; rw [splitL_nil]; dsimp only; rw [List.append_nil]
theorem joinF_line(cur:List T)(x:T)(l:List T)(h:isLn x=true) :joinF cur (x::l)=cur::joinF [] l:=by
 unfold joinF
 rw [splitL_cons,h,ct]
 dsimp only
 rw [List.append_nil]
 have:=splitL_ne l
 cases hs:splitL l with
 | nil=>exact absurd hs this
 | cons p ps=>rfl
theorem joinF_tok(cur:List T)(x:T)(l:List T)(h:isLn x=false) :joinF cur (x::l)=joinF (cur++[x]) l:=by
 unfold joinF
 rw [splitL_cons,h,cf]
 cases hs:splitL l with
 | nil=>rfl
 | cons p ps=>dsimp only; rw [List.append_assoc]; rfl
theorem rows_trees(sz:Nat)(h3:sz=3) :∀ls:List (List T),treesOf sz (ls.map rw3)=some (ls.map rt3)
 | []=>rfl
 | l::ls=>by
  subst h3
  show (treesOf 3 (ls.map rw3)).map _=_
  rw [rows_trees 3 rfl ls]
  rfl
theorem l33_5(z:Bool)(l:List T)(hl:∀y∈l,IsTok y)(hb:l.length≤100000) :∀(m j:Nat) (acc:List (List T)) (cur:List T),m+j=l.length→acc.length≤j→cur.length≤j→
  L33_5 z l (l.length:Int) (j:Int) (acc.map rw3++[rw3 cur])=some (.t (.list 1 true ((acc++joinF cur (l.drop j)).map rt3)),e0)
 | 0,j,acc,cur,h,ha,hc=>by
  have d:decide ((j:Int)<(l.length:Int))=false:=decide_eq_false (by omega)
  have e:acc.map rw3++[rw3 cur]=(acc++[cur]).map rw3:=by rw [List.map_append]; rfl
  rw [L33_5_eq,RL33_5,d,cf,List.drop_of_length_le (by omega),joinF_nil,e]
  unfold treesC
  rw [rows_trees 3 rfl]
 | m+1,j,acc,cur,h,ha,hc=>by
  have d:decide ((j:Int)<(l.length:Int))=true:=decide_eq_true (by omega)
  have n0:decide ((0:Int)≤(j:Int))=true:=decide_eq_true (by omega)
  have hlt:j<l.length:=by omega
  obtain ⟨s,k,v,h1,h2,h3⟩:=getT_tok (R:=V×St) hlt hl (fun a=>asA a fun b=>consT b fun a c=>asI .i64 a fun b=>consT c fun a d=>asS a fun c=>consT d fun a f=>asI .i64 a fun d=>endT f <| none)
  have hg:∀K:T→Option Res,getT l j K=K (tokT s k v):=fun K=>getT_at h1 K
  have hlen:((acc.map rw3++[rw3 cur]).length:Int)=((acc.length+1:Nat):Int):=by rw [List.length_append,List.length_map]; rfl
  have hw:IntKind.i64.wrap (((acc.length+1:Nat):Int) - 1)=(acc.length:Int):=by rw [wrap64 (by omega) (by omega)]; omega
  rw [L33_5_eq,RL33_5,d,ct,needC_true n0,Int.toNat_natCast,hg]
  unfold tokT
  rw [asA_agg,consT_cons,asI_int,consT_cons,asS_str,consT_cons,asI_int,endT_nil,nat64 (by omega),drop_at h1]
  cases hk:decide (k=4) with
  | true=>
   have hx:isLn (tokT s k v)=true:=hk
   have n1:(decide (((acc.map rw3++[rw3 cur]).length+1)*(24+1)≤70368744177664) &&decide (24≤1048576))=true:=by
    rw [List.length_append,List.length_map,decide_eq_true (by show (acc.length+1+1)*(24+1)≤70368744177664; omega)]; rfl
   have e:acc.map rw3++[rw3 cur]++[rw3 []]=(acc++[cur]).map rw3++[rw3 []]:=by rw [List.map_append]; rfl
   have ih:=l33_5 z l hl hb m (j+1) (acc++[cur]) [] (by omega) (by rw [List.length_append]; show _+1≤_; omega) (Nat.zero_le _)
   rw [ct,needC_true n1,joinF_line cur _ _ hx]
   rw [←e,List.append_assoc acc] at ih
   exact ih
  | false=>
   have hx:isLn (tokT s k v)=false:=hk
   have hrow:(acc.map rw3++[rw3 cur])[acc.length]? =some (RowV.own (!cur.isEmpty) cur):=by
    rw [List.getElem?_append_right (by rw [List.length_map]; exact Nat.le_refl _),List.length_map,Nat.sub_self]
    rfl
   have hset:∀y,(acc.map rw3++[rw3 cur]).set acc.length y=acc.map rw3++[y]:=by
    intro y
    rw [List.set_append_right _ _ (by rw [List.length_map]; exact Nat.le_refl _),List.length_map,Nat.sub_self]
    rfl
   have hset2:∀x y:RowV,(acc.map rw3++[x]).set acc.length y=acc.map rw3++[y]:=by
    intro x y
    rw [List.set_append_right _ _ (by rw [List.length_map]; exact Nat.le_refl _),List.length_map,Nat.sub_self]
    rfl
   have hlen2:∀y:RowV,(acc.map rw3++[y]).length=acc.length+1:=fun y=>by rw [List.length_append,List.length_map]; rfl
   have n1:(decide ((0:Int)≤(acc.length:Int)) &&decide ((acc.length:Int)<((acc.length+1:Nat):Int)))=true:=by
    rw [decide_eq_true (by omega:(0:Int)≤(acc.length:Int)),decide_eq_true (by omega:(acc.length:Int)<((acc.length+1:Nat):Int))]; rfl
   have n2:(decide ((cur.length+1)*(32+1)≤70368744177664) &&decide (32≤1048576))=true:=by
    rw [decide_eq_true (by omega:(cur.length+1)*(32+1)≤70368744177664)]; rfl
   have n3:decide (acc.length<acc.length+1)=true:=decide_eq_true (Nat.lt_succ_self _)
   have hne:(!cur.isEmpty || true)=(!(cur++[tokT s k v]).isEmpty):=by cases cur <;>rfl
   have ih:=l33_5 z l hl hb m (j+1) acc (cur++[tokT s k v]) (by omega) (by omega) (by rw [List.length_append]; show _+1≤_; omega)
   rw [cf,hlen,hw,needC_true n1,Int.toNat_natCast,rowC_at3 hrow,needC_true n2,hset,hlen2,needC_true n1,needC_true n3,hset2,hne,joinF_tok cur _ _ hx]
   exact ih
theorem lines33(z:Bool)(l:List T)(hl:∀y∈l,IsTok y)(hb:l.length≤100000) :vr 33 0 [.t (.list 3 z l)] e0=some (.t (if l=[] then .list 1 false [] else .list 1 true ((splitL l).map rt3)),e0):=by
 rw [eq33,R33]
 cases l with
 | nil=>rfl
 | cons x r=>
  have d:decide ((((x::r).length:Nat):Int)=0)=false:=decide_eq_false (by rw [List.length_cons]; omega)
  have h5:=l33_5 z (x::r) hl hb (x::r).length 0 [] [] (Nat.add_zero _) (Nat.le_refl _) (Nat.le_refl _)
  have e:joinF [] ((x::r).drop 0)=splitL (x::r):=by
   unfold joinF
   rw [List.drop_zero]
   have:=splitL_ne (x::r)
   cases hs:splitL (x::r) with
   | nil=>exact absurd hs this
   | cons p ps=>rfl
  rw [e,List.nil_append] at h5
  rw [d,cf,if_neg (by exact List.cons_ne_nil _ _)]
  exact h5
end Go.Proofs.Ytifkgdmiojnllaa.VM
end
