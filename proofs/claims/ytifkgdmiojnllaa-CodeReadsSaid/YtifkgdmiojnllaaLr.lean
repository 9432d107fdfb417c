/- Merged: Lr1 Lr2. Conditions: none. -/
import Derived.Test.YtifkgdmiojnllaaLx
set_option linter.all false
section
namespace Go.Proofs.Ytifkgdmiojnllaa.VM
set_option linter.unusedSectionVars false
open Go AM
set_option linter.unusedVariables false
set_option linter.unusedSimpArgs false
theorem letter32(b:UInt8) :vr 63 0 [.t (.int .u8 (b.toNat:Int))] e0=some (.t (.bool (isL b)),e0):=by
 rw [eq63,R63]
 have h1:decide ((97:Int)≤(b.toNat:Int))=decide (97≤b.toNat):=by simp; omega
 have h2:decide ((b.toNat:Int)≤122)=decide (b.toNat≤122):=by simp; omega
 have h3:decide ((65:Int)≤(b.toNat:Int))=decide (65≤b.toNat):=by simp; omega
 have h4:decide ((b.toNat:Int)≤90)=decide (b.toNat≤90):=by simp; omega
 rw [h1,h2,h3,h4]
 unfold isL
 cases decide (97≤b.toNat) <;>cases decide (b.toNat≤122) <;>cases decide (65≤b.toNat) <;>cases decide (b.toNat≤90) <;>rfl
theorem digit33(b:UInt8) :vr 64 0 [.t (.int .u8 (b.toNat:Int))] e0=some (.t (.bool (isD b)),e0):=by
 rw [eq64,R64]
 have h1:decide ((48:Int)≤(b.toNat:Int))=decide (48≤b.toNat):=by simp; omega
 have h2:decide ((b.toNat:Int)≤57)=decide (b.toNat≤57):=by simp; omega
 rw [h1,h2]
 unfold isD
 cases decide (48≤b.toNat) <;>cases decide (b.toNat≤57) <;>rfl
theorem L19_spec(s:ByteArray)(hs:s.size<9223372036854775807) :∀(m n:Nat),m+n=s.size→L80_4 s (s.size:Int) (n:Int)=some (.t (.bool ((s.data.toList.drop n).all fun b=>isL b || isD b)),e0)
 | 0,n,h=>by
  rw [L80_4_eq,RL80_4]
  have h1:decide ((n:Int)<(s.size:Int))=false:=by simp; omega
  rw [h1,cond_false,List.drop_of_length_le (by simp; omega)]
  simp
 | m+1,n,h=>by
  rw [L80_4_eq,RL80_4]
  have hn:n<s.size:=by omega
  have h1:decide ((n:Int)<(s.size:Int))=true:=by simp; omega
  have h2:decide ((0:Int)≤(n:Int))=true:=by simp
  have hw:IntKind.i64.wrap ((n:Int)+1)=((n+1:Nat):Int):=by rw [wrap64 (by omega) (by omega)]; simp
  simp only [h1,h2,Bool.and_self,needC,cond_true,Int.toNat_natCast,letter32,digit33,callK,Option.bind_some,asT,asB,endB,hw,L19_spec s hs m (n+1) (by omega)]
  rw [list_drop hn,List.all_cons]
  cases isL s[n]! <;>cases isD s[n]! <;>simp
theorem word19(s:ByteArray) :vr 80 0 [.t (.str s)] e0=some (.t (.bool (isWord s.data.toList)),e0):=by
 rw [eq80,R80]
 cases hs:s.data.toList with
 | nil=>
  have:s.size=0:=by rw [←size_list,hs]; rfl
  simp [this,isWord]
 | cons b l=>
  have hz:s.size=l.length+1:=by rw [←size_list,hs]; rfl
  have h0:decide ((s.size:Int)<1)=false:=decide_eq_false (by omega)
  rw [h0]
  by_cases h16:16<(s.size:Int)
  ·have h3:decide ((b::l).length≤16)=false:=by simp; omega
   simp only [decide_eq_true h16,cond_true,cond_false]
   unfold isWord
   rw [h3]
   rfl
  ·have hb:s[0]! =b:=head0 hs
   have h1:decide ((0:Int)<(s.size:Int))=true:=by simp; omega
   have h2:((0:Int)).toNat=0:=rfl
   have hr:=L19_spec s (by omega) s.size 0 (by omega)
   have hc:((0:Nat):Int)=0:=rfl
   rw [hc,List.drop_zero,hs] at hr
   simp only [decide_eq_false h16,cond_true,cond_false,needC,h1,Bool.and_self,decide_true,h2,hb,letter32,callK,Option.bind_some,asT,asB,endB,hr]
   have h3:decide ((b::l).length≤16)=true:=by simp; omega
   unfold isWord
   rw [h3]
   dsimp only
   generalize ((b::l).all fun b=>isL b || isD b)=q
   cases isL b <;>cases q <;>rfl
theorem L16_spec(s:ByteArray)(hs:s.size<9223372036854775807) :∀(m n:Nat) (v:Int),m+n=s.size→L79_5 s v (s.size:Int) (n:Int)=some (numV (numL (s.data.toList.drop n) v),e0)
 | 0,n,v,h=>by
  rw [L79_5_eq,RL79_5]
  have h1:decide ((n:Int)<(s.size:Int))=false:=by simp; omega
  rw [h1,cond_false,List.drop_of_length_le (by simp; omega)]
  rfl
 | m+1,n,v,h=>by
  rw [L79_5_eq,RL79_5]
  have hn:n<s.size:=by omega
  have h1:decide ((n:Int)<(s.size:Int))=true:=by simp; omega
  have h2:decide ((0:Int)≤(n:Int))=true:=by simp
  have hw:IntKind.i64.wrap ((n:Int)+1)=((n+1:Nat):Int):=by rw [wrap64 (by omega) (by omega)]; simp
  simp only [h1,h2,Bool.and_self,needC,cond_true,Int.toNat_natCast,digit33,callK,Option.bind_some,asT,asB,endB,decide_true,hw,L16_spec s hs m (n+1) _ (by omega)]
  rw [list_drop hn]
  cases hd:isD s[n]! <;>simp [numL,hd,numV,dig]
theorem number16(s:ByteArray) :vr 79 0 [.t (.str s)] e0=some (numV (number s.data.toList),e0):=by
 rw [eq79,R79]
 cases hs:s.data.toList with
 | nil=>
  have:s.size=0:=by rw [←size_list,hs]; rfl
  simp [this,number,numV]
 | cons b l=>
  have hz:s.size=l.length+1:=by rw [←size_list,hs]; rfl
  have h0:decide ((s.size:Int)<1)=false:=decide_eq_false (by omega)
  rw [h0,cond_false]
  unfold number
  by_cases h18:18<(s.size:Int)
  ·have h3:decide (18<(b::l).length)=true:=by simp; omega
   rw [decide_eq_true h18,h3]
   rfl
  ·have hb:s[0]! =b:=head0 hs
   have h1:decide ((0:Int)<(s.size:Int))=true:=by simp; omega
   have h2:((0:Int)).toNat=0:=rfl
   have h3:decide (18<(b::l).length)=false:=by simp; omega
   have h4:decide (1<(s.size:Int))=decide (1<(b::l).length):=by simp; omega
   have hr:=L16_spec s (by omega) s.size 0 0 (by omega)
   have hc:((0:Nat):Int)=0:=rfl
   rw [hc,List.drop_zero,hs] at hr
   simp only [decide_eq_false h18,cond_false,needC,h1,Bool.and_self,decide_true,cond_true,h2,hb,hr,h3,h4,u8_48]
   cases decide (1<(b::l).length) <;>cases decide (b=48) <;>rfl
theorem sign42(s:ByteArray) :vr 81 0 [.t (.str s)] e0=some (.t (.bool (isSign s.data.toList)),e0):=by
 rw [eq81,R81]
 have hs:∀c:UInt8,decide (s=⟨#[c]⟩)=decide (s.data.toList=[c]):=fun c=>str_eq s [c]
 simp only [hs]
 generalize s.data.toList=l
 match l with
 | []=>rfl
 | a::b::l=>simp [isSign]
 | [b]=>
  have h:=all_bytes (p:=fun b=>decide ((decide ([b]=[43]) || (decide ([b]=[45]) || (decide ([b]=[42]) || (decide ([b]=[40]) || (decide ([b]=[41]) || (decide ([b]=[91]) || (decide ([b]=[93]) || (decide ([b]=[44]) || (decide ([b]=[61]) || decide ([b]=([58]:List UInt8)))))))))))=isS b)) (by decide+kernel) b
  have h:=of_decide_eq_true h
  show _=some (V.t (T.bool (isS b)),e0)
  rw [←h]
  generalize decide ([b]=([43]:List UInt8))=p0
  generalize decide ([b]=([45]:List UInt8))=p1
  generalize decide ([b]=([42]:List UInt8))=p2
  generalize decide ([b]=([40]:List UInt8))=p3
  generalize decide ([b]=([41]:List UInt8))=p4
  generalize decide ([b]=([91]:List UInt8))=p5
  generalize decide ([b]=([93]:List UInt8))=p6
  generalize decide ([b]=([44]:List UInt8))=p7
  generalize decide ([b]=([61]:List UInt8))=p8
  generalize decide ([b]=([58]:List UInt8))=p9
  cases p0; cases p1; cases p2; cases p3; cases p4; cases p5; cases p6; cases p7; cases p8; cases p9
  all_goals rfl
theorem token34(s:ByteArray) :vr 65 0 [.t (.str s)] e0=some (match tok s.data.toList with | some (k,n)=> .tup [.t (tokT s k n), .t (.bool true)] | none=> .tup [.t (tokT ByteArray.empty 0 0), .t (.bool false)],e0):=by
 rw [eq65,R65]
 simp only [word19,number16,sign42,callK,Option.bind_some,asT,asB,endB]
 unfold tok
 cases number s.data.toList with
 | some n=>rfl
 | none=>cases isWord s.data.toList <;>cases isSign s.data.toList <;>rfl
end Go.Proofs.Ytifkgdmiojnllaa.VM
end
section
namespace Go.Proofs.Ytifkgdmiojnllaa.VM
set_option linter.unusedSectionVars false
open Go AM
set_option linter.unusedVariables false
set_option linter.unusedSimpArgs false
theorem u8_eqs(b:UInt8) :decide ((b.toNat:Int)=32)=decide (b=32)∧decide ((b.toNat:Int)=9)=decide (b=9)∧decide ((b.toNat:Int)=10)=decide (b=10)∧decide ((b.toNat:Int)=35)=decide (b=35):=by
 have:=all_bytes (p:=fun b=>decide (decide ((b.toNat:Int)=32)=decide (b=32)) &&(decide (decide ((b.toNat:Int)=9)=decide (b=9)) &&(decide (decide ((b.toNat:Int)=10)=decide (b=10)) &&decide (decide ((b.toNat:Int)=35)=decide (b=35))))) (by decide+kernel) b
 simp only [Bool.and_eq_true,decide_eq_true_eq] at this
 exact this
theorem J13_22_spec(s:ByteArray){pos n:Nat}(hp:pos+n≤70000)(z:Bool)(out:List T)(ho:out.length≤200000)(k:Int)(x:ByteArray)(v:Int) :
  J32_22 s (pos:Int) (n:Int) z out k x v=L32_6 s false ((pos+n:Nat):Int) true (out++[.agg [.int .i64 k, .str x, .int .i64 v]]):=by
 have hw:IntKind.i64.wrap ((pos:Int)+(n:Int))=((pos+n:Nat):Int):=by rw [wrap64 (by omega) (by omega)]; simp
 rw [J32_22_eq,RJ32_22,needC_true (fits_in ho),hw,Bool.or_true]
noncomputable def tail13(s0:ByteArray)(line6:Bool)(i7:Int)(n9:Int)(m8z:Bool)(m8:List T) :Option (V×St):=
 subS s0 (some i7) (some (IntKind.i64.wrap (i7+n9))) fun s_67=>
 callK (vr 65 0 [(.t (.str s_67))] ⟨[],[]⟩) fun v_68 b_69=>
 asTup v_68 fun l_70=>
 consV l_70 fun v_71 l_72=>
 asT v_71 fun x_73=>
 asA x_73 fun l_74=>
 consT l_74 fun v_75 l_76=>
 asI .i64 v_75 fun x_77=>
 consT l_76 fun v_78 l_79=>
 asS v_78 fun s_80=>
 consT l_79 fun v_81 l_82=>
 asI .i64 v_81 fun x_83=>
 endT l_82 <|
 consV l_72 fun v_84 l_85=>
 asT v_84 fun x_86=>
 asB x_86 fun b_87=>
 endV l_85 <|
 endB b_69 <|
 (bif (!b_87) then
 some ((.tup [(.t (.list 3 false [])),(.t (.int .i64 i7)),(.t (.int .i64 6))]),⟨[],[]⟩)
 else
 (bif line6 then
 (bif (decide (0<(m8.length:Int))) then
 needC (decide ((m8.length+1)*(32+1)≤70368744177664) &&decide (32≤1048576)) fun _=>
 J32_22 (s0) (i7) (n9) ((m8z || true)) ((m8++([(.agg [(.int .i64 4),(.str ByteArray.empty),(.int .i64 0)])]:List T))) (x_77) (s_80) (x_83)
 else
 J32_22 (s0) (i7) (n9) (m8z) (m8) (x_77) (s_80) (x_83))
 else
 J32_22 (s0) (i7) (n9) (m8z) (m8) (x_77) (s_80) (x_83)))
theorem tail13_spec(s:ByteArray)(hs:s.size≤65536){pos n:Nat}(hp:pos+n≤s.size)(hn:0<n){line:Bool}{out:List T}(ho:out.length≤2*pos)
  {r:Option (V×St)} (hr:∀k v,tok ((s.data.toList.drop pos).take n)=some (k,v)→L32_6 s false ((pos+n:Nat):Int) true ((bif line && !out.isEmpty then out++[lineT] else out)++[tokT ⟨⟨(s.data.toList.drop pos).take n⟩⟩ k v])=r) (hr2:tok ((s.data.toList.drop pos).take n)=none→some (cutV s.size (.err pos),e0)=r):
  tail13 s line (pos:Int) (n:Int) (!out.isEmpty) out=r:=by
 have b1:pos+n≤70000:=by omega
 have b2:out.length≤200000:=by omega
 have b3:(out++[T.agg [.int .i64 4, .str ByteArray.empty, .int .i64 0]]).length≤200000:=by simp; omega
 have hw:IntKind.i64.wrap ((pos:Int)+(n:Int))=((pos+n:Nat):Int):=by rw [wrap64 (by omega) (by omega)]; simp
 have h1:decide ((0:Int)≤(pos:Int))=true:=decide_eq_true (by omega)
 have h2:decide ((pos:Int)≤((pos+n:Nat):Int))=true:=decide_eq_true (by omega)
 have h3:decide (((pos+n:Nat):Int)≤(s.size:Int))=true:=decide_eq_true (by omega)
 have hx:s.extract (pos:Int).toNat ((pos+n:Nat):Int).toNat=⟨⟨(s.data.toList.drop pos).take n⟩⟩:=by
  rw [ext_list]
  have:((pos+n:Nat):Int).toNat - (pos:Int).toNat=n:=by omega
  rw [this]; rfl
 have e1:(⟨⟨(s.data.toList.drop pos).take n⟩⟩:ByteArray).data.toList=(s.data.toList.drop pos).take n:=rfl
 unfold tail13
 simp only [subS,Option.getD_some,hw,h1,h2,h3,Bool.and_self,needC_t,cond_true,hx,token34,e1,callK,Option.bind_some]
 cases ht:tok ((s.data.toList.drop pos).take n) with
 | none=>exact hr2 ht
 | some kv=>
  obtain ⟨k,v⟩:=kv
  rw [←hr k v ht]
  simp only [asTup,consV,asT,asA,tokT,consT,asI,asS,asB,endT,endV,endB,decide_true,cond_true,Bool.not_true,cond_false]
  have h4:decide ((0:Int)<(out.length:Int))= !out.isEmpty:=by cases out <;>simp
  rw [h4]
  cases line with
  | true=>
   cases hl: !out.isEmpty with
   | true=>
    rw [ct,ct,needC_true (fits_in b2),J13_22_spec s b1 _ _ b3,Bool.true_and,ct]
    rfl
   | false=>
    rw [ct,cf,J13_22_spec s b1 _ _ b2,Bool.true_and,cf]
  | false=>
   rw [cf,J13_22_spec s b1 _ _ b2,Bool.false_and,cf]
theorem L13_15_cut(s:ByteArray)(line:Bool)(i n:Int)(c:UInt8)(z:Bool)(out:List T) :L32_15 s line i (c.toNat:Int) n z out=
  bif isL c || isD c then
   bif decide (IntKind.i64.wrap (i+n)<(s.size:Int)) then
    needC (decide (0≤IntKind.i64.wrap (i+n)) &&decide (IntKind.i64.wrap (i+n)<(s.size:Int))) fun _=>
    bif isL s[(IntKind.i64.wrap (i+n)).toNat]! || isD s[(IntKind.i64.wrap (i+n)).toNat]! then L32_15 s line i (c.toNat:Int) (IntKind.i64.wrap (n+1)) z out
    else tail13 s line i n z out
   else tail13 s line i n z out
  else tail13 s line i n z out:=by
 rw [L32_15_eq,RL32_15]
 simp only [letter32,digit33,callK_some,asT_t,endB_nil,asB]
 cases hL:isL c with
 | true=>
  rw [ct,Bool.true_or,ct]
  cases hlt:decide (IntKind.i64.wrap (i+n)<(s.size:Int)) with
  | false=>rw [cf,cf]; rfl
  | true=>
   rw [ct,ct]
   cases h0:decide (0≤IntKind.i64.wrap (i+n)) with
   | false=>rfl
   | true=>
    rw [Bool.and_self,needC_t,needC_t]
    cases hL2:isL s[(IntKind.i64.wrap (i+n)).toNat]! with
    | true=>rw [ct,Bool.true_or,ct,needC_t]
    | false=>
     rw [cf,needC_t,Bool.false_or]
     cases hD2:isD s[(IntKind.i64.wrap (i+n)).toNat]! with
     | true=>rw [ct,ct]
     | false=>rw [cf,cf]; rfl
 | false=>
  rw [cf,Bool.false_or]
  cases hD:isD c with
  | false=>rw [cf,cf]; rfl
  | true=>
   rw [ct,ct]
   cases hlt:decide (IntKind.i64.wrap (i+n)<(s.size:Int)) with
   | false=>rw [cf,cf]; rfl
   | true=>
    rw [ct,ct]
    cases h0:decide (0≤IntKind.i64.wrap (i+n)) with
    | false=>rfl
    | true=>
     rw [Bool.and_self,needC_t,needC_t]
     cases hL2:isL s[(IntKind.i64.wrap (i+n)).toNat]! with
     | true=>rw [ct,Bool.true_or,ct,needC_t]
     | false=>
      rw [cf,needC_t,Bool.false_or]
      cases hD2:isD s[(IntKind.i64.wrap (i+n)).toNat]! with
      | true=>rw [ct,ct]
      | false=>rw [cf,cf]; rfl
theorem wadd{a b:Nat}(h:a+b≤70000) :IntKind.i64.wrap ((a:Int)+(b:Int))=((a+b:Nat):Int):=by rw [wrap64 (by omega) (by omega)]; simp
theorem L13_15_spec(s:ByteArray)(hs:s.size≤65536)(line:Bool)(z:Bool)(out:List T)(i:Nat)(c:UInt8)(hc:(isL c || isD c)=true) :∀(m n:Nat),m+(i+n)=s.size→
  L32_15 s line (i:Int) (c.toNat:Int) (n:Int) z out=tail13 s line (i:Int) ((n+runL (s.data.toList.drop (i+n)):Nat):Int) z out
 | 0,n,h=>by
  have h1:decide (((i+n:Nat):Int)<(s.size:Int))=false:=decide_eq_false (by omega)
  rw [L13_15_cut,hc,ct,wadd (by omega),h1,cf,List.drop_of_length_le (by simp; omega)]
  rfl
 | m+1,n,h=>by
  have hn:i+n<s.size:=by omega
  have h1:decide (((i+n:Nat):Int)<(s.size:Int))=true:=decide_eq_true (by omega)
  have h2:decide ((0:Int)≤((i+n:Nat):Int))=true:=decide_eq_true (by omega)
  have hto:(((i+n:Nat):Int)).toNat=i+n:=by omega
  have hw:IntKind.i64.wrap ((n:Int)+1)=((n+1:Nat):Int):=by rw [wrap64 (by omega) (by omega)]; simp
  rw [L13_15_cut,hc,ct,wadd (by omega),h1,ct,h2,Bool.and_self,needC_t,hto,hw,L13_15_spec s hs line z out i c hc m (n+1) (by omega),list_drop hn,runL_cons]
  cases isL s[i+n]! || isD s[i+n]! with
  | true=>
   rw [ct,ct]
   have:n+1+runL (s.data.toList.drop (i+(n+1)))=n+(runL (s.data.toList.drop (i+n+1))+1):=by
    have e:i+(n+1)=i+n+1:=by omega
    rw [e]; omega
   rw [this]
  | false=>rw [cf,cf]; rfl
theorem L13_12_spec(s:ByteArray)(hs:s.size≤65536)(line z:Bool)(out:List T) :∀(m i:Nat),m+i=s.size→L32_12 s line (i:Int) z out=L32_6 s line ((i+skipC (s.data.toList.drop i):Nat):Int) z out
 | 0,i,h=>by
  have h1:decide ((i:Int)<(s.size:Int))=false:=decide_eq_false (by omega)
  rw [L32_12_eq,RL32_12,h1,cf,List.drop_of_length_le (by simp; omega)]
  rfl
 | m+1,i,h=>by
  have hn:i<s.size:=by omega
  have h1:decide ((i:Int)<(s.size:Int))=true:=decide_eq_true (by omega)
  have h2:decide ((0:Int)≤(i:Int))=true:=decide_eq_true (by omega)
  have hto:((i:Int)).toNat=i:=by omega
  have hw:IntKind.i64.wrap ((i:Int)+1)=((i+1:Nat):Int):=by rw [wrap64 (by omega) (by omega)]; simp
  have hk:skipC (s[i]! ::s.data.toList.drop (i+1))=bif decide (s[i]! =10) then 0 else skipC (s.data.toList.drop (i+1))+1:=rfl
  rw [L32_12_eq,RL32_12,h1,ct,h2,Bool.and_self,needC_t,hto,hw,(u8_eqs _).2.2.1,L13_12_spec s hs line z out m (i+1) (by omega),list_drop hn,hk]
  cases decide (s[i]! =10) with
  | true=>rw [Bool.not_true,cf,ct]; rfl
  | false=>
   rw [Bool.not_false,ct,cf]
   have:i+1+skipC (s.data.toList.drop (i+1))=i+(skipC (s.data.toList.drop (i+1))+1):=by omega
   rw [this]
theorem L13_spec(s:ByteArray)(hs:s.size≤65536) :∀(f pos:Nat) (line:Bool) (out:List T),s.size<pos+f→pos≤s.size→out.length≤2*pos→
  L32_6 s line (pos:Int) (!out.isEmpty) out=some (cutV s.size (cutS f (s.data.toList.drop pos) pos line out),e0)
 | 0,pos,line,out,hf,hp,ho=>by omega
 | f+1,pos,line,out,hf,hp,ho=>by
  rw [L32_6_eq,RL32_6]
  by_cases hlt:pos<s.size
  ·have h1:decide ((pos:Int)<(s.size:Int))=true:=decide_eq_true (by omega)
   have h2:decide ((0:Int)≤(pos:Int))=true:=decide_eq_true (by omega)
   have hd:=list_drop hlt
   have hw:IntKind.i64.wrap ((pos:Int)+1)=((pos+1:Nat):Int):=by rw [wrap64 (by omega) (by omega)]; simp
   have hto:((pos:Int)).toNat=pos:=by omega
   have hlen:(s.data.toList.drop pos).length=s.size - pos:=by simp
   have hrl:=runL_le (s.data.toList.drop pos)
   have hsl:=skipC_le (s.data.toList.drop pos)
   rw [h1,ct,h2,Bool.and_self,needC_t,hto,(u8_eqs _).1,(u8_eqs _).2.1,(u8_eqs _).2.2.1,(u8_eqs _).2.2.2,hw]
   have hc:cutS (f+1) (s.data.toList.drop pos) pos line out=bif decide (s[pos]! =10) then cutS f (s.data.toList.drop (pos+1)) (pos+1) true out
     else bif decide (s[pos]! =32) || decide (s[pos]! =9) then cutS f (s.data.toList.drop (pos+1)) (pos+1) line out
     else bif decide (s[pos]! =35) then cutS f (s.data.toList.drop (pos+skipC (s.data.toList.drop pos))) (pos+skipC (s.data.toList.drop pos)) line out
     else match tok ((s.data.toList.drop pos).take (bif isL s[pos]! || isD s[pos]! then runL (s.data.toList.drop pos) else 1)) with
      | none=> .err pos
      | some (k,v)=>cutS f (s.data.toList.drop (pos+(bif isL s[pos]! || isD s[pos]! then runL (s.data.toList.drop pos) else 1))) (pos+(bif isL s[pos]! || isD s[pos]! then runL (s.data.toList.drop pos) else 1)) false ((bif line && !out.isEmpty then out++[lineT] else out)++[tokT ⟨⟨(s.data.toList.drop pos).take (bif isL s[pos]! || isD s[pos]! then runL (s.data.toList.drop pos) else 1)⟩⟩ k v]):=by
    have hdd:∀n,s.data.toList.drop (pos+n)=(s.data.toList.drop pos).drop n:=fun n=>by rw [List.drop_drop]
    rw [hdd 1,hdd (skipC (s.data.toList.drop pos)),hdd (bif isL s[pos]! || isD s[pos]! then runL (s.data.toList.drop pos) else 1),hd]
    rfl
   rw [hc]
   have one:∀n:Nat,0<n→pos+n≤s.size→tail13 s line (pos:Int) (n:Int) (!out.isEmpty) out=some (cutV s.size (match tok ((s.data.toList.drop pos).take n) with
     | none=> .err pos
     | some (k,v)=>cutS f (s.data.toList.drop (pos+n)) (pos+n) false ((bif line && !out.isEmpty then out++[lineT] else out)++[tokT ⟨⟨(s.data.toList.drop pos).take n⟩⟩ k v])),e0):=by
    intro n hn hpn
    refine tail13_spec s hs hpn hn ho (fun k v ht=> ?_) (fun ht=> ?_)
    ·rw [ht]
     have:=L13_spec s hs f (pos+n) false ((bif line && !out.isEmpty then out++[lineT] else out)++[tokT ⟨⟨(s.data.toList.drop pos).take n⟩⟩ k v]) (by omega) hpn (by cases line && !out.isEmpty <;>simp <;>omega)
     rw [some_empty] at this
     exact this
    ·rw [ht]
   have step:∀l:Bool,L32_6 s l ((pos+1:Nat):Int) (!out.isEmpty) out=some (cutV s.size (cutS f (s.data.toList.drop (pos+1)) (pos+1) l out),e0):=fun l=>L13_spec s hs f (pos+1) l out (by omega) (by omega) (by omega)
   rw [step true,step (decide (s[pos]! =10))]
   cases h10:decide (s[pos]! =10) with
   | true=>
    have hb:s[pos]! =10:=of_decide_eq_true h10
    have h32:decide (s[pos]! =32)=false:=by rw [hb]; rfl
    have h9:decide (s[pos]! =9)=false:=by rw [hb]; rfl
    rw [h32,cf,h9,cf,ct,ct]
    cases line <;>rfl
   | false=>
    cases h32:decide (s[pos]! =32) with
    | true=>
     rw [ct,cf,Bool.true_or,ct]
     cases line <;>rfl
    | false=>
     rw [cf]
     cases h9:decide (s[pos]! =9) with
     | true=>
      rw [ct,cf,Bool.false_or,ct]
      cases line <;>rfl
     | false=>
      rw [cf,cf,cf,Bool.false_or,cf]
      cases h35:decide (s[pos]! =35) with
      | true=>
       rw [ct,ct,L13_12_spec s hs line _ out (s.size - pos) pos (by omega)]
       have hsp:0<skipC (s.data.toList.drop pos):=by
        rw [hd]; unfold skipC; rw [h10]; simp
       exact L13_spec s hs f _ line out (by omega) (by omega) (by omega)
      | false=>
       rw [cf,cf]
       have e1:(1:Int)=((1:Nat):Int):=rfl
       cases hLD:isL s[pos]! || isD s[pos]! with
       | true=>
        have hk:=runL_cons s[pos]! (s.data.toList.drop (pos+1))
        rw [hLD,ct,←hd] at hk
        rw [e1,L13_15_spec s hs line _ out pos s[pos]! hLD (s.size - (pos+1)) 1 (by omega),ct]
        have:1+runL (s.data.toList.drop (pos+1))=runL (s.data.toList.drop pos):=by omega
        rw [this]
        exact one _ (by omega) (by omega)
       | false=>
        rw [L13_15_cut,hLD,cf,cf,e1]
        exact one 1 (by omega) (by omega)
  ·have h1:decide ((pos:Int)<(s.size:Int))=false:=decide_eq_false (by omega)
   have h4:decide (4096<(out.length:Int))=decide (4096<out.length):=by simp; omega
   rw [h1,cf,List.drop_of_length_le (by simp; omega),h4]
   unfold cutS cutV
   dsimp only
   cases decide (4096<out.length) <;>rfl
theorem cut13(s:ByteArray) :vr 32 0 [.t (.str s)] e0=some (cutOf s,e0):=by
 rw [eq32,R32]
 unfold cutOf
 by_cases h:65536<s.size
 ·have h1:decide (65536<(s.size:Int))=true:=decide_eq_true (by omega)
  rw [h1,decide_eq_true h]; rfl
 ·have h1:decide (65536<(s.size:Int))=false:=decide_eq_false (by omega)
  rw [h1,decide_eq_false h,cf,cf]
  exact L13_spec s (by omega) (s.size+1) 0 false [] (by omega) (by omega) (by simp)
end Go.Proofs.Ytifkgdmiojnllaa.VM
end
