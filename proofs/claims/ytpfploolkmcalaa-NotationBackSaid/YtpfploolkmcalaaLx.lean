/- Merged: Lx1 Lx2 Lx3 Lx4 Lx5. Conditions: none. -/
import Derived.Test.YtpfploolkmcalaaOv
set_option linter.all false
section
namespace Go.Proofs.Ytpfploolkmcalaa.VM
set_option linter.unusedSectionVars false
open Go AM
set_option linter.unusedVariables false
set_option linter.unusedSimpArgs false
abbrev e0 :St:=⟨[],[]⟩
def isL(b:UInt8) :Bool:=(decide (97≤b.toNat) &&decide (b.toNat≤122)) || (decide (65≤b.toNat) &&decide (b.toNat≤90))
def isD(b:UInt8) :Bool:=decide (48≤b.toNat) &&decide (b.toNat≤57)
def isS(b:UInt8) :Bool:=[43,45,42,40,41,91,93,44,61,58].contains b.toNat
def kd(b:UInt8) :Int:=
 bif isL b then 1 else bif isD b then 2 else bif isS b then 3 else bif b.toNat==32 || b.toNat==9 then 4 else bif b.toNat==10 then 5 else bif b.toNat==35 then 6 else 0
theorem all_bytes{p:UInt8→Bool}(h:(List.range 256).all (fun n=>p (UInt8.ofNat n))=true)(b:UInt8) :p b=true:=by
 have:=List.all_eq_true.1 h b.toNat (List.mem_range.2 b.toNat_lt)
 simpa using this
theorem index29(s:ByteArray)(c:Int) :vr 65 0 [.t (.str s), .t (.int .u8 c)] e0=some (.t (.int .i64 (Lib.indexByte s.data.toList c.toNat.toUInt8)),e0):=by
 rw [eq65,R65]
 have h:vr 104 0 [.t (.str s), .t (.int .u8 c)] ⟨[],[]⟩=some (.t (.int .i64 (Lib.indexByte s.data.toList c.toNat.toUInt8)),⟨[],[]⟩):=vrun_ov (k:=0) Try.prog hint rfl rfl []
 rw [h]
 rfl
def kdAt(b:UInt8) :Bool:=
 let c:Int:=(b.toNat:Int)
 let k:Int:=
  bif decide (97≤bitsI .or .u8 c 32) &&decide (bitsI .or .u8 c 32≤122) then 1 else
  bif decide (48≤c) &&decide (c≤57) then 2 else
  bif decide (0≤Lib.indexByte [43,45,42,40,41,91,93,44,61,58] c.toNat.toUInt8) then 3 else
  bif decide (c=32) || decide (c=9) then 4 else bif decide (c=10) then 5 else bif decide (c=35) then 6 else 0
 decide (k=kd b)
theorem kdAt_all(b:UInt8) :kdAt b=true:=all_bytes (p:=kdAt) (by decide+kernel) b
theorem kind28(b:UInt8) :vr 64 0 [.t (.int .u8 (b.toNat:Int))] e0=some (.t (.int .i64 (kd b)),e0):=by
 have h:=kdAt_all b
 unfold kdAt at h
 dsimp only at h
 rw [←of_decide_eq_true h,eq64,R64]
 simp only [index29,callK,Option.bind_some,asT,asI,endB,decide_true,cond_true]
 generalize decide (97≤bitsI .or .u8 (b.toNat:Int) 32)=p1
 generalize decide (bitsI .or .u8 (b.toNat:Int) 32≤122)=p2
 generalize decide ((48:Int)≤(b.toNat:Int))=p3
 generalize decide ((b.toNat:Int)≤57)=p4
 generalize decide ((b.toNat:Int)=32)=p6
 generalize decide ((b.toNat:Int)=9)=p7
 generalize decide ((b.toNat:Int)=10)=p8
 generalize decide ((b.toNat:Int)=35)=p9
 generalize decide (0≤Lib.indexByte [43,45,42,40,41,91,93,44,61,58] (b.toNat:Int).toNat.toUInt8)=p5
 cases p1 <;>cases p2 <;>cases p3 <;>cases p4 <;>cases p5 <;>cases p6 <;>cases p7 <;>cases p8 <;>cases p9 <;>rfl
theorem kd1(b:UInt8) :decide (kd b=1)=isL b:=by
 unfold kd
 cases isL b <;>cases isD b <;>cases isS b <;>cases b.toNat==32 || b.toNat==9 <;>cases b.toNat==10 <;>cases b.toNat==35 <;>rfl
theorem kd2(b:UInt8) :decide (kd b=2)=isD b:=by
 have:=all_bytes (p:=fun b=>decide (decide (kd b=2)=isD b)) (by decide+kernel) b
 exact of_decide_eq_true this
theorem kd3(b:UInt8) :decide (kd b=3)=isS b:=by
 have:=all_bytes (p:=fun b=>decide (decide (kd b=3)=isS b)) (by decide+kernel) b
 exact of_decide_eq_true this
theorem byte_at{s:ByteArray}{n:Nat}(h:n<s.size) :s[n]! =s.data.toList[n]'(by simpa using h):=by
 rw [getElem!_pos s n h]
 rfl
def runL :List UInt8→Nat
 | []=>0
 | b::l=>bif isL b || isD b then runL l+1 else 0
theorem runL_cons(b:UInt8)(l:List UInt8) :runL (b::l)=bif isL b || isD b then runL l+1 else 0:=rfl
theorem runL_le :∀l:List UInt8,runL l≤l.length
 | []=>Nat.le_refl _
 | b::l=>by
  unfold runL
  have:=runL_le l
  cases isL b || isD b <;>simp <;>omega
theorem L30_spec(s:ByteArray)(hs:s.size<9223372036854775807) :∀(m n:Nat),m+n=s.size→L66_2 s (n:Int)=some (.t (.int .i64 ((n:Int)+runL (s.data.toList.drop n))),e0)
 | 0,n,h=>by
  rw [L66_2_eq,RL66_2]
  have h1:decide ((n:Int)<(s.size:Int))=false:=by simp; omega
  rw [h1,cond_false,List.drop_of_length_le (by simp; omega)]
  simp [runL]
 | m+1,n,h=>by
  rw [L66_2_eq,RL66_2]
  have hn:n<s.size:=by omega
  have h1:decide ((n:Int)<(s.size:Int))=true:=by simp; omega
  have h2:decide ((0:Int)≤(n:Int))=true:=by simp
  have hd:s.data.toList.drop n=s[n]! ::s.data.toList.drop (n+1):=by
   rw [byte_at hn]
   exact List.drop_eq_getElem_cons (by simpa using hn)
  have hw:IntKind.i64.wrap ((n:Int)+1)=((n+1:Nat):Int):=by rw [wrap64 (by omega) (by omega)]; simp
  simp only [h1,h2,Bool.and_self,needC,cond_true,Int.toNat_natCast,kind28,callK,Option.bind_some,asT,asI,endB,decide_true,kd1,kd2,hw,L30_spec s hs m (n+1) (by omega)]
  rw [hd,runL_cons]
  cases isL s[n]! <;>cases isD s[n]! <;>simp <;>omega
theorem run30(s:ByteArray)(hs:s.size<9223372036854775807) :vr 66 0 [.t (.str s)] e0=some (.t (.int .i64 (runL s.data.toList:Int)),e0):=by
 rw [eq66,R66]
 have:=L30_spec s hs s.size 0 (by omega)
 simpa using this
end Go.Proofs.Ytpfploolkmcalaa.VM
end
section
namespace Go.Proofs.Ytpfploolkmcalaa.VM
set_option linter.unusedSectionVars false
open Go AM
set_option linter.unusedVariables false
set_option linter.unusedSimpArgs false
def isWord(l:List UInt8) :Bool:=
 match l with
 | []=>false
 | b::_=>decide (l.length≤16) &&isL b &&l.all fun b=>isL b || isD b
theorem runL_all :∀l:List UInt8,decide ((runL l:Int)=(l.length:Int))=l.all fun b=>isL b || isD b
 | []=>rfl
 | b::l=>by
  have h:=runL_all l
  have h2:=runL_le l
  rw [runL_cons,List.all_cons]
  cases isL b || isD b
  ·simp; omega
  ·simp only [cond_true,Bool.true_and,List.length_cons]
   rw [←h]
   simp
theorem size_list(s:ByteArray) :s.data.toList.length=s.size:=by simp
theorem list_drop{s:ByteArray}{n:Nat}(hn:n<s.size) :s.data.toList.drop n=s[n]! ::s.data.toList.drop (n+1):=by
 rw [byte_at hn]
 exact List.drop_eq_getElem_cons (by simpa using hn)
theorem head0{s:ByteArray}{b:UInt8}{l:List UInt8}(hs:s.data.toList=b::l) :s[0]! =b:=by
 have hz:s.size=l.length+1:=by rw [←size_list,hs]; rfl
 have h:=list_drop (s:=s) (n:=0) (by omega)
 rw [List.drop_zero,hs] at h
 exact (List.cons.inj h).1.symm
theorem empty_iff(s:ByteArray) :decide (s=⟨#[]⟩)=decide (s.size=0):=by
 rw [Bool.eq_iff_iff]
 simp only [decide_eq_true_eq]
 constructor
 ·rintro rfl; rfl
 ·intro h
  obtain ⟨⟨l⟩⟩:=s
  have:l=[]:=by simpa [ByteArray.size] using h
  subst this; rfl
theorem le_dec{a b:Int}(h:a≤b) :decide (a≤b)=true:=decide_eq_true h
theorem word18(s:ByteArray) :vr 51 0 [.t (.str s)] e0=some (.t (.bool (isWord s.data.toList)),e0):=by
 rw [eq51,R51,empty_iff]
 cases hs:s.data.toList with
 | nil=>
  have:s.size=0:=by rw [←size_list,hs]; rfl
  simp [this,isWord]
 | cons b l=>
  have hz:s.size=l.length+1:=by rw [←size_list,hs]; rfl
  have h0:decide (s.size=0)=false:=decide_eq_false (by omega)
  rw [h0]
  by_cases h16:(s.size:Int)≤16
  ·have hb:s[0]! =b:=head0 hs
   have h1:decide ((0:Int)<(s.size:Int))=true:=by simp; omega
   have h2:((0:Int)).toNat=0:=rfl
   simp only [decide_eq_true h16,Bool.not_false,cond_true,needC,h1,Bool.and_self,decide_true,h2,hb,kind28,callK,Option.bind_some,asT,asI,endB,kd1,run30 s (by omega)]
   have hr:=runL_all s.data.toList
   rw [size_list,hs] at hr
   rw [hs,hr]
   have h3:decide ((b::l).length≤16)=true:=by simp; omega
   unfold isWord
   rw [h3]
   dsimp only
   generalize ((b::l).all fun b=>isL b || isD b)=q
   cases isL b <;>cases q <;>rfl
  ·have h3:decide ((b::l).length≤16)=false:=by simp; omega
   simp only [decide_eq_false h16,Bool.not_false,cond_true,cond_false]
   unfold isWord
   rw [h3]
   rfl
def dig(n:Int)(b:UInt8) :Int:=IntKind.i64.wrap (IntKind.i64.wrap (10*n)+IntKind.i64.wrap (IntKind.u8.wrap ((b.toNat:Int) - 48)))
def numL :List UInt8→Int→Option Int
 | [],n=>some n
 | b::l,n=>bif isD b then numL l (dig n b) else none
def numV :Option Int→V
 | some n=> .tup [.t (.int .i64 n), .t (.bool true)]
 | none=> .tup [.t (.int .i64 0), .t (.bool false)]
def number(l:List UInt8) :Option Int:=
 match l with
 | []=>none
 | b::_=>bif decide (18<l.length) then none else bif decide (1<l.length) &&decide (b=48) then none else numL l 0
theorem L15_spec(s:ByteArray)(hs:s.size<9223372036854775807) :∀(m n:Nat) (v:Int),m+n=s.size→L105_4 s v (s.size:Int) (n:Int)=some (numV (numL (s.data.toList.drop n) v),e0)
 | 0,n,v,h=>by
  rw [L105_4_eq,RL105_4]
  have h1:decide ((n:Int)<(s.size:Int))=false:=by simp; omega
  rw [h1,cond_false,List.drop_of_length_le (by simp; omega)]
  rfl
 | m+1,n,v,h=>by
  rw [L105_4_eq,RL105_4]
  have hn:n<s.size:=by omega
  have h1:decide ((n:Int)<(s.size:Int))=true:=by simp; omega
  have h2:decide ((0:Int)≤(n:Int))=true:=by simp
  have hw:IntKind.i64.wrap ((n:Int)+1)=((n+1:Nat):Int):=by rw [wrap64 (by omega) (by omega)]; simp
  simp only [h1,h2,Bool.and_self,needC,cond_true,Int.toNat_natCast,kind28,callK,Option.bind_some,asT,asI,endB,decide_true,kd2,hw,L15_spec s hs m (n+1) _ (by omega)]
  rw [list_drop hn]
  cases hd:isD s[n]! <;>simp [numL,hd,numV,dig]
theorem u8_48(b:UInt8) :decide ((b.toNat:Int)=48)=decide (b=48):=by
 have:=all_bytes (p:=fun b=>decide (decide ((b.toNat:Int)=48)=decide (b=48))) (by decide+kernel) b
 exact of_decide_eq_true this
theorem number15(s:ByteArray) :vr 105 0 [.t (.str s)] e0=some (numV (number s.data.toList),e0):=by
 rw [eq105,R105,empty_iff]
 cases hs:s.data.toList with
 | nil=>
  have:s.size=0:=by rw [←size_list,hs]; rfl
  simp [this,number,numV]
 | cons b l=>
  have hz:s.size=l.length+1:=by rw [←size_list,hs]; rfl
  have h0:decide (s.size=0)=false:=decide_eq_false (by omega)
  rw [h0,cond_false]
  unfold number
  by_cases h18:18<(s.size:Int)
  ·have h3:decide (18<(b::l).length)=true:=by simp; omega
   rw [decide_eq_true h18,h3]
   rfl
  ·have hb:s[0]! =b:=head0 hs
   have h1:decide ((0:Int)<(s.size:Int))=true:=by simp; omega
   have h2:((0:Int)).toNat=0:=rfl
   have h3:decide (18<(b::l).length)=false:=by simp; omega
   have h4:decide (1<(s.size:Int))=decide (1<(b::l).length):=by simp; omega
   have hr:=L15_spec s (by omega) s.size 0 0 (by omega)
   have hc:((0:Nat):Int)=0:=rfl
   rw [hc,List.drop_zero,hs] at hr
   simp only [decide_eq_false h18,cond_false,needC,h1,Bool.and_self,decide_true,cond_true,h2,hb,hr,h3,h4,u8_48]
   cases decide (1<(b::l).length) <;>cases decide (b=48) <;>rfl
end Go.Proofs.Ytpfploolkmcalaa.VM
end
section
namespace Go.Proofs.Ytpfploolkmcalaa.VM
set_option linter.unusedSectionVars false
open Go AM
set_option linter.unusedVariables false
set_option linter.unusedSimpArgs false
theorem str_eq(s:ByteArray)(l:List UInt8) :decide (s=⟨⟨l⟩⟩)=decide (s.data.toList=l):=by
 rw [Bool.eq_iff_iff]
 simp only [decide_eq_true_eq]
 constructor
 ·rintro rfl; rfl
 ·intro h
  obtain ⟨⟨x⟩⟩:=s
  have:x=l:=h
  subst this; rfl
def isSign :List UInt8→Bool
 | [b]=>isS b
 | _=>false
theorem isL_isD{b:UInt8}(h:isL b=true) :isD b=false:=by
 have:=all_bytes (p:=fun b=> !isL b || !isD b) (by decide+kernel) b
 rw [h] at this
 simpa using this
theorem isS_no{b:UInt8}(h:isS b=true) :isL b=false∧isD b=false:=by
 have:=all_bytes (p:=fun b=> !isS b || (!isL b && !isD b)) (by decide+kernel) b
 rw [h] at this
 simpa using this
theorem numL_no{b:UInt8}{l:List UInt8}{n:Int}(h:isD b=false) :numL (b::l) n=none:=by
 unfold numL; rw [h]; rfl
theorem number_no{b:UInt8}{l:List UInt8}(h:isD b=false) :number (b::l)=none:=by
 unfold number
 rw [numL_no h]
 dsimp only
 cases decide (18<(b::l).length) <;>cases decide (1<(b::l).length) &&decide (b=48) <;>rfl
theorem word_first{b:UInt8}{l:List UInt8}(h:isWord (b::l)=true) :isL b=true:=by
 unfold isWord at h
 simp at h
 exact h.1.2
def tok(l:List UInt8) :Option (Int×Int):=
 match number l with
 | some n=>some (2,n)
 | none=>bif isWord l then some (1,0) else bif isSign l then some (3,0) else none
def tokT(s:ByteArray)(k n:Int) :T:= .agg [.int .i64 k, .str s, .int .i64 n]
theorem read31(s:ByteArray) :vr 67 0 [.t (.str s)] e0=some (match tok s.data.toList with | some (k,n)=> .tup [.t (tokT s k n), .t (.bool true)] | none=> .tup [.t (tokT s 2 0), .t (.bool false)],e0):=by
 rw [eq67,R67]
 simp only [word18,number15,callK,Option.bind_some,asT,asB,endB]
 cases hl:s.data.toList with
 | nil=>
  have hz:s.size=0:=by rw [←size_list,hl]; rfl
  have h1:decide ((s.size:Int)=1)=false:=decide_eq_false (by omega)
  rw [h1]
  rfl
 | cons b l=>
  have hz:s.size=l.length+1:=by rw [←size_list,hl]; rfl
  cases hw:isWord (b::l) with
  | true=>
   have:tok (b::l)=some (1,0):=by
    unfold tok
    rw [number_no (isL_isD (word_first hw)),hw]
    rfl
   rw [this]
   rfl
  | false=>
   simp only [cond_false]
   have hb:s[0]! =b:=head0 hl
   cases l with
   | nil=>
    have h1:decide ((s.size:Int)=1)=true:=decide_eq_true (by simp at hz; omega)
    have h2:decide ((0:Int)<(s.size:Int))=true:=decide_eq_true (by omega)
    have h3:((0:Int)).toNat=0:=rfl
    simp only [h1,h2,h3,hb,kind28,cond_true,needC,decide_true,Bool.and_self,Option.bind_some,asI,kd3,Int.le_refl]
    cases hs:isS b with
    | true=>
     have:tok [b]=some (3,0):=by
      unfold tok
      have hsg:isSign [b]=true:=hs
      rw [number_no (isS_no hs).2,hw,hsg]
      rfl
     rw [this]
     rfl
    | false=>
     have hsg:isSign [b]=false:=hs
     unfold tok
     rw [hw,hsg]
     cases number [b] <;>rfl
   | cons c l=>
    have h1:decide ((s.size:Int)=1)=false:=decide_eq_false (by simp at hz; omega)
    rw [h1]
    have hsg:isSign (b::c::l)=false:=rfl
    unfold tok
    rw [hw,hsg]
    cases number (b::c::l) <;>rfl
end Go.Proofs.Ytpfploolkmcalaa.VM
end
section
namespace Go.Proofs.Ytpfploolkmcalaa.VM
set_option linter.unusedSectionVars false
open Go AM
set_option linter.unusedVariables false
set_option linter.unusedSimpArgs false
def skipC :List UInt8→Nat
 | []=>0
 | b::l=>bif decide (b=10) then 0 else skipC l+1
theorem skipC_le :∀l:List UInt8,skipC l≤l.length
 | []=>Nat.le_refl _
 | b::l=>by
  have:=skipC_le l
  unfold skipC
  cases decide (b=10) <;>simp <;>omega
theorem index_skip :∀l:List UInt8,Lib.indexByte l 10=if skipC l<l.length then (skipC l:Int) else -1
 | []=>rfl
 | b::l=>by
  have h:=index_skip l
  have h2:=skipC_le l
  unfold Lib.indexByte skipC
  rw [h]
  by_cases hb:b=10
  ·simp [hb]
  ·have h3:(b==10)=false:=by simpa using hb
   have h4:decide (b=10)=false:=by simpa using hb
   rw [h3,h4]
   simp only [cond_false,List.length_cons]
   by_cases hs:skipC l<l.length
   ·have hs2:skipC l+1<l.length+1:=by omega
    have:((skipC l:Int)== -1)=false:=by rw [beq_eq_false_iff_ne]; omega
    simp only [if_pos hs,if_pos hs2,this]
    simp
   ·have hs2:¬skipC l+1<l.length+1:=by omega
    simp only [if_neg hs,if_neg hs2]
    simp
inductive CutR where
 | err (at_:Nat)
 | ok (out:List T)
def lineT :T:= .agg [.int .i64 4, .str ByteArray.empty, .int .i64 0]
def cutS :Nat→List UInt8→Nat→Bool→List T→CutR
 | 0,_,pos,_,_=> .err pos
 | f+1,l,pos,line,out=>match l with
  | []=> .ok out
  | b::t=>bif decide (b=10) then cutS f t (pos+1) true out
   else bif decide (b=32) || decide (b=9) then cutS f t (pos+1) line out
   else bif decide (b=35) then cutS f ((b::t).drop (skipC (b::t))) (pos+skipC (b::t)) line out
   else
    let n:=bif isL b || isD b then runL (b::t) else 1
    match tok ((b::t).take n) with
    | none=> .err pos
    | some (k,v)=>cutS f ((b::t).drop n) (pos+n) false ((bif line && !out.isEmpty then out++[lineT] else out)++[tokT ⟨⟨(b::t).take n⟩⟩ k v])
def cutV(size:Nat) :CutR→V
 | .err p=> .tup [.t (.list 3 false []), .t (.int .i64 (p:Int)), .t (.int .i64 6)]
 | .ok out=>bif decide (4096<out.length) then .tup [.t (.list 3 false []), .t (.int .i64 0), .t (.int .i64 2)] else .tup [.t (.list 3 (!out.isEmpty) out), .t (.int .i64 (size:Int)), .t (.int .i64 0)]
theorem ext_list(s:ByteArray)(a b:Nat) :s.extract a b=⟨⟨(s.data.toList.drop a).take (b - a)⟩⟩:=by
 have h:(s.extract a b).data=⟨(s.data.toList.drop a).take (b - a)⟩:=by
  rw [ByteArray.data_extract]
  apply Array.toList_inj.1
  simp [List.extract_eq_take_drop]
 exact congrArg ByteArray.mk h
theorem kd4(b:UInt8) :decide (kd b=5)=decide (b=10)∧decide (kd b=4)=(decide (b=32) || decide (b=9))∧decide (kd b=6)=decide (b=35):=by
 have:=all_bytes (p:=fun b=>decide (decide (kd b=5)=decide (b=10)) &&(decide (decide (kd b=4)=(decide (b=32) || decide (b=9))) &&decide (decide (kd b=6)=decide (b=35)))) (by decide+kernel) b
 simp only [Bool.and_eq_true,decide_eq_true_eq] at this
 exact this
theorem runL_pos{b:UInt8}{l:List UInt8}(h:(isL b || isD b)=true) :0<runL (b::l):=by rw [runL_cons,h]; simp
theorem J12_28_spec(s:ByteArray)(out:List T) :J28_28 s (!out.isEmpty) out=some (cutV s.size (.ok out),e0):=by
 rw [J28_28_eq,RJ28_28]
 have h:decide (4096<(out.length:Int))=decide (4096<out.length):=by simp; omega
 rw [h]
 unfold cutV
 dsimp only
 cases decide (4096<out.length) <;>rfl
theorem some_empty(out:List T)(x:T) :(!(out++[x]).isEmpty)=true:=by simp
theorem need_ok{R:Type}{n:Nat}(h:n≤200000)(K:Unit→Option R) :needC (decide ((n+1)*(32+1)≤70368744177664) &&decide (32≤1048576)) K=K ():=by
 have h1:decide ((n+1)*(32+1)≤70368744177664)=true:=decide_eq_true (by omega)
 rw [h1]; rfl
theorem fits_in{n:Nat}(h:n≤200000) :(decide ((n+1)*(32+1)≤70368744177664) &&decide (32≤1048576))=true:=by
 have h1:decide ((n+1)*(32+1)≤70368744177664)=true:=decide_eq_true (by omega)
 rw [h1]; rfl
theorem J12_26_spec(s:ByteArray){pos n:Nat}(hp:pos+n≤70000)(z:Bool)(out:List T)(ho:out.length≤200000)(k:Int)(x:ByteArray)(v:Int) :
  J28_26 s (pos:Int) (n:Int) z out k x v=L28_6 s false ((pos+n:Nat):Int) true (out++[.agg [.int .i64 k, .str x, .int .i64 v]]):=by
 have hw:IntKind.i64.wrap ((pos:Int)+(n:Int))=((pos+n:Nat):Int):=by rw [wrap64 (by omega) (by omega)]; simp
 rw [J28_26_eq,RJ28_26,needC_true (fits_in ho),hw,Bool.or_true]
theorem J12_spec(s:ByteArray)(hs:s.size≤65536){pos n:Nat}(hp:pos+n≤s.size)(hn:0<n){line:Bool}{out:List T}(ho:out.length≤2*pos)
  {r:Option (V×St)} (hr:∀k v,tok ((s.data.toList.drop pos).take n)=some (k,v)→L28_6 s false ((pos+n:Nat):Int) true ((bif line && !out.isEmpty then out++[lineT] else out)++[tokT ⟨⟨(s.data.toList.drop pos).take n⟩⟩ k v])=r) (hr2:tok ((s.data.toList.drop pos).take n)=none→some (cutV s.size (.err pos),e0)=r):
  J28_21 s (line && !out.isEmpty) (pos:Int) (n:Int) (!out.isEmpty) out=r:=by
 have b1:pos+n≤70000:=by omega
 have b2:out.length≤200000:=by omega
 have b3:(out++[T.agg [.int .i64 4, .str ByteArray.empty, .int .i64 0]]).length≤200000:=by simp; omega
 rw [J28_21_eq,RJ28_21]
 have hw:IntKind.i64.wrap ((pos:Int)+(n:Int))=((pos+n:Nat):Int):=by rw [wrap64 (by omega) (by omega)]; simp
 have h1:decide ((0:Int)≤(pos:Int))=true:=decide_eq_true (by omega)
 have h2:decide ((pos:Int)≤((pos+n:Nat):Int))=true:=decide_eq_true (by omega)
 have h3:decide (((pos+n:Nat):Int)≤(s.size:Int))=true:=decide_eq_true (by omega)
 have hx:s.extract (pos:Int).toNat ((pos+n:Nat):Int).toNat=⟨⟨(s.data.toList.drop pos).take n⟩⟩:=by
  rw [ext_list]
  have:((pos+n:Nat):Int).toNat - (pos:Int).toNat=n:=by omega
  rw [this]; rfl
 have e1:(⟨⟨(s.data.toList.drop pos).take n⟩⟩:ByteArray).data.toList=(s.data.toList.drop pos).take n:=rfl
 simp only [subS,Option.getD_some,hw,h1,h2,h3,Bool.and_self,needC_t,cond_true,hx,read31,e1,callK,Option.bind_some]
 cases ht:tok ((s.data.toList.drop pos).take n) with
 | none=>exact hr2 ht
 | some kv=>
  obtain ⟨k,v⟩:=kv
  rw [←hr k v ht]
  simp only [asTup,consV,asT,asA,tokT,consT,asI,asS,asB,endT,endV,endB,decide_true,cond_true,Bool.not_true,cond_false]
  cases hl:line && !out.isEmpty with
  | true=>
   have ho2:(!out.isEmpty)=true:=by cases line <;>simp_all
   simp only [cond_true]
   rw [needC_true (fits_in b2),J12_26_spec s b1 _ _ b3]
   rfl
  | false=>
   rw [cond_false,cond_false]
   rw [J12_26_spec s b1 _ _ b2]
theorem sub_drop{R:Type}(s:ByteArray){pos:Nat}(h:pos≤s.size)(K:ByteArray→Option R) :subS s (some (pos:Int)) none K=K ⟨⟨s.data.toList.drop pos⟩⟩:=by
 unfold subS
 have h1:decide ((0:Int)≤(pos:Int))=true:=decide_eq_true (by omega)
 have h2:decide ((pos:Int)≤(s.size:Int))=true:=decide_eq_true (by omega)
 have h3:decide ((s.size:Int)≤(s.size:Int))=true:=decide_eq_true (by omega)
 simp only [Option.getD_some,Option.getD_none,h1,h2,h3,Bool.and_self]
 rw [needC_t,ext_list]
 have:(s.data.toList.drop (pos:Int).toNat).take ((s.size:Int).toNat - (pos:Int).toNat)=s.data.toList.drop pos:=by
  apply List.take_of_length_le
  simp
 rw [this]
theorem L12_spec(s:ByteArray)(hs:s.size≤65536) :∀(f pos:Nat) (line:Bool) (out:List T),s.size<pos+f→pos≤s.size→out.length≤2*pos→
  L28_6 s (line && !out.isEmpty) (pos:Int) (!out.isEmpty) out=some (cutV s.size (cutS f (s.data.toList.drop pos) pos line out),e0)
 | 0,pos,line,out,hf,hp,ho=>by omega
 | f+1,pos,line,out,hf,hp,ho=>by
  rw [L28_6_eq,RL28_6]
  by_cases hlt:pos<s.size
  ·have h1:decide ((pos:Int)<(s.size:Int))=true:=decide_eq_true (by omega)
   have h2:decide ((0:Int)≤(pos:Int))=true:=decide_eq_true (by omega)
   have hd:=list_drop hlt
   have hw:IntKind.i64.wrap ((pos:Int)+1)=((pos+1:Nat):Int):=by rw [wrap64 (by omega) (by omega)]; simp
   have hto:((pos:Int)).toNat=pos:=by omega
   have hk:(isL s[pos]! || isD s[pos]!)=true→0<runL (s.data.toList.drop pos):=by rw [hd]; exact runL_pos
   have hlen:(s.data.toList.drop pos).length=s.size - pos:=by simp
   have hrl:=runL_le (s.data.toList.drop pos)
   have hsl:=skipC_le (s.data.toList.drop pos)
   have hr30:vr 66 0 [.t (.str ⟨⟨s.data.toList.drop pos⟩⟩)] e0=some (.t (.int .i64 (runL (s.data.toList.drop pos):Int)),e0):=
    run30 ⟨⟨s.data.toList.drop pos⟩⟩ (by show (s.data.toList.drop pos).length<_; rw [hlen]; omega)
   have hnat:∀n:Nat,IntKind.i64.wrap ((pos:Int)+(n:Int))=((pos+n:Nat):Int)∨70000<n:=by
    intro n
    by_cases hn:n≤70000
    ·left; rw [wrap64 (by omega) (by omega)]; simp
    ·right; omega
   rw [h1,ct,h2,Bool.and_self,needC_t,hto,kind28,callK_some,asT_t,asI_int,endB_nil,(kd4 _).1,(kd4 _).2.1,(kd4 _).2.2,kd1,kd2]
   have hc:cutS (f+1) (s.data.toList.drop pos) pos line out=bif decide (s[pos]! =10) then cutS f (s.data.toList.drop (pos+1)) (pos+1) true out
     else bif decide (s[pos]! =32) || decide (s[pos]! =9) then cutS f (s.data.toList.drop (pos+1)) (pos+1) line out
     else bif decide (s[pos]! =35) then cutS f (s.data.toList.drop (pos+skipC (s.data.toList.drop pos))) (pos+skipC (s.data.toList.drop pos)) line out
     else match tok ((s.data.toList.drop pos).take (bif isL s[pos]! || isD s[pos]! then runL (s.data.toList.drop pos) else 1)) with
      | none=> .err pos
      | some (k,v)=>cutS f (s.data.toList.drop (pos+(bif isL s[pos]! || isD s[pos]! then runL (s.data.toList.drop pos) else 1))) (pos+(bif isL s[pos]! || isD s[pos]! then runL (s.data.toList.drop pos) else 1)) false ((bif line && !out.isEmpty then out++[lineT] else out)++[tokT ⟨⟨(s.data.toList.drop pos).take (bif isL s[pos]! || isD s[pos]! then runL (s.data.toList.drop pos) else 1)⟩⟩ k v]):=by
    have hdd:∀n,s.data.toList.drop (pos+n)=(s.data.toList.drop pos).drop n:=fun n=>by rw [List.drop_drop]
    rw [hdd 1,hdd (skipC (s.data.toList.drop pos)),hdd (bif isL s[pos]! || isD s[pos]! then runL (s.data.toList.drop pos) else 1),hd]
    rfl
   rw [hc]
   have one:∀n:Nat,0<n→pos+n≤s.size→J28_21 s (line && !out.isEmpty) (pos:Int) (n:Int) (!out.isEmpty) out=some (cutV s.size (match tok ((s.data.toList.drop pos).take n) with
     | none=> .err pos
     | some (k,v)=>cutS f (s.data.toList.drop (pos+n)) (pos+n) false ((bif line && !out.isEmpty then out++[lineT] else out)++[tokT ⟨⟨(s.data.toList.drop pos).take n⟩⟩ k v])),e0):=by
    intro n hn hpn
    refine J12_spec s hs hpn hn ho (fun k v ht=> ?_) (fun ht=> ?_)
    ·rw [ht]
     have:=L12_spec s hs f (pos+n) false ((bif line && !out.isEmpty then out++[lineT] else out)++[tokT ⟨⟨(s.data.toList.drop pos).take n⟩⟩ k v]) (by omega) hpn (by cases line && !out.isEmpty <;>simp <;>omega)
     rw [Bool.false_and,some_empty] at this
     exact this
    ·rw [ht]
   cases h10:decide (s[pos]! =10) with
   | true=>
    rw [ct,ct,hw]
    have h3:decide ((0:Int)<(out.length:Int))= !out.isEmpty:=by cases out <;>simp
    rw [h3]
    exact L12_spec s hs f (pos+1) true out (by omega) (by omega) (by omega)
   | false=>
    rw [cf,cf]
    cases hbl:decide (s[pos]! =32) || decide (s[pos]! =9) with
    | true=>
     rw [ct,ct,hw]
     exact L12_spec s hs f (pos+1) line out (by omega) (by omega) (by omega)
    | false=>
     rw [cf,cf]
     cases h35:decide (s[pos]! =35) with
     | true=>
      rw [ct,ct,sub_drop s hp,index29,callK_some,asT_t,asI_int,endB_nil]
      have hix:=index_skip (s.data.toList.drop pos)
      have hx:Lib.indexByte (⟨⟨s.data.toList.drop pos⟩⟩:ByteArray).data.toList (10:Int).toNat.toUInt8=Lib.indexByte (s.data.toList.drop pos) 10:=rfl
      rw [hx,hix]
      have hsp:0<skipC (s.data.toList.drop pos):=by
       rw [hd]; unfold skipC; rw [h10]; simp
      by_cases hsk:skipC (s.data.toList.drop pos)<(s.data.toList.drop pos).length
      ·rw [if_pos hsk]
       have h0:decide ((skipC (s.data.toList.drop pos):Int)<0)=false:=decide_eq_false (by omega)
       rw [h0,cf]
       rcases hnat (skipC (s.data.toList.drop pos)) with hw2 | hw2
       ·rw [hw2]
        exact L12_spec s hs f _ line out (by omega) (by omega) (by omega)
       ·omega
      ·rw [if_neg hsk]
       have h0:decide ((-1:Int)<0)=true:=rfl
       rw [h0,ct,J12_28_spec]
       have he:pos+skipC (s.data.toList.drop pos)=s.size:=by omega
       rw [he,List.drop_of_length_le (by simp)]
       cases f with
       | zero=>omega
       | succ f=>rfl
     | false=>
      rw [cf,cf]
      cases hL:isL s[pos]! with
      | true=>
       rw [ct,sub_drop s hp,hr30,callK_some,asT_t,asI_int,endB_nil,Bool.true_or,ct]
       rw [hL] at hk
       exact one _ (hk rfl) (by omega)
      | false=>
       rw [cf,Bool.false_or]
       cases hD:isD s[pos]! with
       | true=>
        rw [ct,sub_drop s hp,hr30,callK_some,asT_t,asI_int,endB_nil,ct]
        rw [hL,hD] at hk
        exact one _ (hk rfl) (by omega)
       | false=>
        rw [cf,cf]
        exact one 1 (by omega) (by omega)
  ·have h1:decide ((pos:Int)<(s.size:Int))=false:=decide_eq_false (by omega)
   rw [h1,cf,J12_28_spec,List.drop_of_length_le (by simp; omega)]
   rfl
end Go.Proofs.Ytpfploolkmcalaa.VM
end
section
namespace Go.Proofs.Ytpfploolkmcalaa.VM
set_option linter.unusedSectionVars false
open Go AM
set_option linter.unusedVariables false
set_option linter.unusedSimpArgs false
def cutOf(s:ByteArray) :V:=bif decide (65536<s.size) then .tup [.t (.list 3 false []), .t (.int .i64 0), .t (.int .i64 2)] else cutV s.size (cutS (s.size+1) s.data.toList 0 false [])
theorem cut12(s:ByteArray) :vr 28 0 [.t (.str s)] e0=some (cutOf s,e0):=by
 rw [eq28,R28]
 unfold cutOf
 by_cases h:65536<s.size
 ·have h1:decide (65536<(s.size:Int))=true:=decide_eq_true (by omega)
  rw [h1,decide_eq_true h]; rfl
 ·have h1:decide (65536<(s.size:Int))=false:=decide_eq_false (by omega)
  rw [h1,decide_eq_false h,cf,cf]
  exact L12_spec s (by omega) (s.size+1) 0 false [] (by omega) (by omega) (by simp)
def IsTok(x:T) :Prop:=∃s k v,x=tokT s k v
theorem cutS_tok :∀(f:Nat) (l:List UInt8) (pos:Nat) (line:Bool) (out:List T),(∀x∈out,IsTok x)→∀out',cutS f l pos line out= .ok out'→∀x∈out',IsTok x
 | 0,l,pos,line,out,h,out',he=>by cases he
 | f+1,l,pos,line,out,h,out',he=>by
  unfold cutS at he
  cases l with
  | nil=>cases he; exact h
  | cons b t=>
   dsimp only at he
   cases h10:decide (b=10) <;>rw [h10] at he <;>simp only [cond_true,cond_false] at he
   ·cases hb:decide (b=32) || decide (b=9) <;>rw [hb] at he <;>simp only [cond_true,cond_false] at he
    ·cases h35:decide (b=35) <;>rw [h35] at he <;>simp only [cond_true,cond_false] at he
     ·split at he
      ·cases he
      ·refine cutS_tok f _ _ _ _ (fun x hx=> ?_) _ he
       rcases List.mem_append.1 hx with hx | hx
       ·cases hl:line && !out.isEmpty <;>rw [hl] at hx <;>simp only [cond_true,cond_false] at hx
        ·exact h x hx
        ·rcases List.mem_append.1 hx with hx | hx
         ·exact h x hx
         ·exact ⟨_,_,_,by simpa [lineT,tokT] using hx⟩
       ·exact ⟨_,_,_,by simpa using hx⟩
     ·exact cutS_tok f _ _ _ _ h _ he
    ·exact cutS_tok f _ _ _ _ h _ he
   ·exact cutS_tok f _ _ _ _ h _ he
theorem cutOf_form(s:ByteArray) :∃z l n e,cutOf s= .tup [.t (.list 3 z l), .t (.int .i64 n), .t (.int .i64 e)]∧(∀x∈l,IsTok x)∧l.length≤4096:=by
 unfold cutOf
 cases decide (65536<s.size) with
 | true=>exact ⟨_,_,_,_,rfl,by simp,by simp⟩
 | false=>
  rw [cf]
  cases hr:cutS (s.size+1) s.data.toList 0 false [] with
  | err p=>exact ⟨_,_,_,_,rfl,by simp,by simp⟩
  | ok out=>
   unfold cutV
   dsimp only
   cases h:decide (4096<out.length) with
   | true=>exact ⟨_,_,_,_,rfl,by simp,by simp⟩
   | false=>exact ⟨_,_,_,_,rfl,cutS_tok _ _ _ _ _ (by simp) _ hr,by have:=of_decide_eq_false h; omega⟩
def tkK :T→Int
 | .agg (.int _ k::_)=>k
 | _=>0
def tkS :T→ByteArray
 | .agg (_:: .str s::_)=>s
 | _=>ByteArray.empty
def isLn(x:T) :Bool:=decide (tkK x=4)
theorem getT_tok{R:Type}{l:List T}{i:Nat}(h:i<l.length)(hl:∀y∈l,IsTok y)(K:T→Option R) :∃s k v,l[i]? =some (tokT s k v)∧l[i]'h=tokT s k v∧getT l i K=K (tokT s k v):=by
 obtain ⟨s,k,v,hx⟩:=hl _ (List.getElem_mem h)
 have h1:l[i]? =some (tokT s k v):=by rw [List.getElem?_eq_getElem h,hx]
 exact ⟨s,k,v,h1,hx,getT_at h1 K⟩
theorem drop_at{A:Type}{l:List A}{i:Nat}{x:A}(h:l[i]? =some x) :l.drop i=x::l.drop (i+1):=by
 obtain ⟨h1,h2⟩:=List.getElem?_eq_some_iff.1 h
 rw [List.drop_eq_getElem_cons h1,h2]
def fl :List T→Nat
 | []=>0
 | x::l=>bif isLn x then 0 else fl l+1
theorem fl_le :∀l:List T,fl l≤l.length
 | []=>Nat.le_refl _
 | x::l=>by
  have:=fl_le l
  unfold fl
  cases isLn x <;>simp <;>omega
theorem L37_spec(z:Bool)(l:List T)(hl:∀y∈l,IsTok y)(hb:l.length≤9223372036854775807) :∀(m i:Nat),m+i=l.length→L68_2 z l (l.length:Int) (i:Int)=some (.t (.int .i64 (if fl (l.drop i)<(l.drop i).length then ((i+fl (l.drop i):Nat):Int) else -1)),e0)
 | 0,i,h=>by
  have h1:decide ((i:Int)<(l.length:Int))=false:=decide_eq_false (by omega)
  rw [L68_2_eq,RL68_2,h1,cf,List.drop_of_length_le (by omega)]
  rfl
 | m+1,i,h=>by
  have h1:decide ((i:Int)<(l.length:Int))=true:=decide_eq_true (by omega)
  have h2:decide ((0:Int)≤(i:Int))=true:=decide_eq_true (by omega)
  have hw:IntKind.i64.wrap ((i:Int)+1)=((i+1:Nat):Int):=by rw [wrap64 (by omega) (by omega)]; simp
  rw [L68_2_eq,RL68_2,h1,ct,h2,needC_t,Int.toNat_natCast,hw]
  obtain ⟨s,k,v,g1,g2,g3⟩:=getT_tok (R:=V×St) (l:=l) (i:=i) (by omega) hl _
  rw [g3,drop_at g1]
  unfold tokT
  rw [asA_agg,consT_cons,asI_int,consT_cons,asS_str,consT_cons,asI_int,endT_nil,eq69,R69,callK_some,asT_t,asB_bool,endB_nil]
  have e1:fl (.agg [.int .i64 k, .str s, .int .i64 v]::l.drop (i+1))=bif decide (k=4) then 0 else fl (l.drop (i+1))+1:=rfl
  rw [e1]
  cases decide (k=4) with
  | true=>rw [ct,ct,if_pos (by simp)]; rfl
  | false=>
   rw [cf,cf,L37_spec z l hl hb m (i+1) (by omega),List.length_cons]
   by_cases hh:fl (l.drop (i+1))<(l.drop (i+1)).length
   ·rw [if_pos hh,if_pos (by omega)]
    congr 5
    omega
   ·rw [if_neg hh,if_neg (by omega)]
theorem index37(z:Bool)(l:List T)(hl:∀y∈l,IsTok y)(hb:l.length≤9223372036854775807) :vr 68 0 [.t (.list 3 z l), .fn 69 [] []] e0=some (.t (.int .i64 (if fl l<l.length then (fl l:Int) else -1)),e0):=by
 rw [eq68,R68]
 have:=L37_spec z l hl hb l.length 0 (by omega)
 rw [List.drop_zero,Nat.zero_add] at this
 exact this
def splitL :List T→List (List T)
 | []=>[[]]
 | x::l=>bif isLn x then []::splitL l else match splitL l with
  | h::t=>(x::h)::t
  | []=>[[x]]
theorem splitL_nil :splitL []=[[]]:=rfl
theorem splitL_cons(x:T)(l:List T) :splitL (x::l)=bif isLn x then []::splitL l else match splitL l with
  | h::t=>(x::h)::t
  | []=>[[x]]:=rfl
theorem fl_cons(x:T)(l:List T) :fl (x::l)=bif isLn x then 0 else fl l+1:=rfl
theorem splitL_ne :∀l:List T,splitL l ≠[]
 | []=>by simp [splitL]
 | x::l=>by
  rw [splitL_cons]
  cases isLn x with
  | true=>simp
  | false=>cases splitL l <;>simp
theorem splitL_fl :∀l:List T,splitL l=if fl l<l.length then l.take (fl l)::splitL (l.drop (fl l+1)) else [l]
 | []=>rfl
 | x::l=>by
  have ih:=splitL_fl l
  rw [splitL_cons,fl_cons]
  cases hx:isLn x with
  | true=>simp
  | false=>
   simp only [cond_false,List.length_cons]
   rw [ih]
   by_cases h:fl l<l.length
   ·rw [if_pos h,if_pos (by omega),List.take_succ_cons,List.drop_succ_cons]
   ·rw [if_neg h,if_neg (by omega)]
theorem splitL_mem :∀(l:List T),∀p∈splitL l,∀x∈p,x∈l∧isLn x=false
 | [],p,hp,x,hx=>by simp [splitL] at hp; subst hp; cases hx
 | y::l,p,hp,x,hx=>by
  have ih:=splitL_mem l
  rw [splitL_cons] at hp
  cases hy:isLn y <;>rw [hy] at hp <;>simp only [cond_true,cond_false] at hp
  ·cases hs:splitL l with
   | nil=>exact absurd hs (splitL_ne l)
   | cons h t=>
    rw [hs] at hp ih
    dsimp only at hp
    rcases List.mem_cons.1 hp with rfl | hp
    ·rcases List.mem_cons.1 hx with rfl | hx
     ·exact ⟨by simp,hy⟩
     ·obtain ⟨h1,h2⟩:=ih h (by simp) x hx
      exact ⟨List.mem_cons_of_mem _ h1,h2⟩
    ·obtain ⟨h1,h2⟩:=ih p (List.mem_cons_of_mem _ hp) x hx
     exact ⟨List.mem_cons_of_mem _ h1,h2⟩
  ·rcases List.mem_cons.1 hp with rfl | hp
   ·cases hx
   ·obtain ⟨h1,h2⟩:=ih p hp x hx
    exact ⟨List.mem_cons_of_mem _ h1,h2⟩
theorem splitL_len :∀l:List T,(splitL l).length≤l.length+1
 | []=>by simp [splitL]
 | x::l=>by
  have ih:=splitL_len l
  rw [splitL_cons]
  cases isLn x with
  | true=>simp; omega
  | false=>
   simp only [cond_false]
   cases hs:splitL l with
   | nil=>simp
   | cons h t=>rw [hs] at ih; simp at ih ⊢; omega
def IsLines(r:List T)(ls:List (List T)) :Prop:=All2 (fun t l=>∃z,t= .list 3 z l) r ls
theorem clone39(z:Bool)(l:List T)(hz:z=false→l=[])(hb:l.length≤100000) :∃z',vr 70 0 [.t (.list 3 z l)] e0=some (.t (.list 3 z' l),e0):=by
 rw [eq70,R70]
 cases z with
 | false=>rw [hz rfl]; exact ⟨false,rfl⟩
 | true=>
  have n1:(decide ((0+l.length)*(32+1)≤70368744177664) &&decide (32≤1048576))=true:=by rw [decide_eq_true (by omega)]; rfl
  rw [bNT,cf,needC_true n1]
  exact ⟨true,rfl⟩
theorem cutL_take{R:Type}{l:List T}{i:Nat}(h:i≤l.length)(K:List T→Option R) :cutL l none (some (i:Int)) K=K (l.take i):=by
 unfold cutL
 simp only [Option.getD_none,Option.getD_some]
 rw [needC_true (by rw [decide_eq_true (by omega),decide_eq_true (by omega),decide_eq_true (by omega)]; rfl)]
 rfl
theorem cutL_drop{R:Type}{l:List T}{i:Nat}(h:i≤l.length)(K:List T→Option R) :cutL l (some (i:Int)) none K=K (l.drop i):=by
 unfold cutL
 simp only [Option.getD_none,Option.getD_some]
 rw [needC_true (by rw [decide_eq_true (by omega),decide_eq_true (by omega),decide_eq_true (by omega)]; rfl),Int.toNat_natCast,Int.toNat_natCast,List.take_length]
theorem L22_spec :∀(n:Nat) (z:Bool) (l:List T) (mz:Bool) (m:List T) (acc:List (List T)),l.length≤n→(z=false→l=[])→(∀y∈l,IsTok y)→m.length+2*l.length≤200000→IsLines m acc→
  ∃zz r,L30_2 z l mz m=some (.t (.list 1 zz r),e0)∧IsLines r (acc++(if l=[] then [] else splitL l)):=by
 intro n
 induction n with
 | zero=>
  intro z l mz m acc hn hz hl hb hm
  have:l=[]:=List.length_eq_zero_iff.1 (by omega)
  subst this
  rw [L30_2_eq,RL30_2]
  exact ⟨mz,m,rfl,by rw [if_pos rfl,List.append_nil]; exact hm⟩
 | succ n ih=>
  intro z l mz m acc hn hz hl hb hm
  by_cases h0:l=[]
  ·subst h0
   rw [L30_2_eq,RL30_2]
   exact ⟨mz,m,rfl,by rw [if_pos rfl,List.append_nil]; exact hm⟩
  ·have hz':z=true:=by cases z with
    | true=>rfl
    | false=>exact absurd (hz rfl) h0
   subst hz'
   have hlp:0<l.length:=List.length_pos_iff.2 h0
   have d1:decide ((0:Int)<(l.length:Int))=true:=decide_eq_true (by omega)
   have nA:(decide ((m.length+1)*(24+1)≤70368744177664) &&decide (24≤1048576))=true:=by rw [decide_eq_true (by omega)]; rfl
   rw [L30_2_eq,RL30_2,d1,ct,index37 true l hl (by omega),callK_some,asT_t,asI_int,endB_nil,if_neg h0,splitL_fl l]
   have hfl:=fl_le l
   by_cases hf:fl l<l.length
   ·rw [if_pos hf,if_pos hf]
    have d2:decide ((fl l:Int)<0)=false:=decide_eq_false (by omega)
    obtain ⟨z',hc⟩:=clone39 true (l.take (fl l)) (fun h=>by cases h) (by rw [List.length_take]; omega)
    have hw:IntKind.i64.wrap ((fl l:Int)+1)=((fl l+1:Nat):Int):=by rw [wrap64 (by omega) (by omega)]; simp
    have hm2:IsLines (m++[.list 3 z' (l.take (fl l))]) (acc++[l.take (fl l)]):=hm.append (.cons ⟨z',rfl⟩ .nil)
    have hm2l:(m++[T.list 3 z' (l.take (fl l))]).length=m.length+1:=by simp
    rw [d2,cf,cutL_take hfl,hc,callK_some,asT_t,asL_list,endB_nil,needC_true nA,hw,cutL_drop (by omega)]
    have hdl:(l.drop (fl l+1)).length=l.length - (fl l+1):=List.length_drop
    have hdm:∀y∈l.drop (fl l+1),IsTok y:=fun y hy=>hl y (List.mem_of_mem_drop hy)
    by_cases he:l.drop (fl l+1)=[]
    ·have d3:decide (((l.drop (fl l+1)).length:Int)=0)=true:=by rw [he]; rfl
     have nB:(decide ((((m++([(.list 3 z' (l.take (fl l)))]:List T))).length+1)*(24+1)≤70368744177664) &&decide (24≤1048576))=true:=by rw [decide_eq_true (by rw [hm2l]; omega)]; rfl
     rw [d3,ct,needC_true nB]
     obtain ⟨zz,r,h1,h2⟩:=ih true (l.drop (fl l+1)) ((mz || true) || true) ((m++[T.list 3 z' (l.take (fl l))])++[.list 3 false []]) ((acc++[l.take (fl l)])++[[]]) (by omega) (fun h=>by cases h) hdm (by rw [List.length_append,hm2l]; simp; omega) (hm2.append (.cons ⟨false,rfl⟩ .nil))
     refine ⟨zz,r,h1, ?_⟩
     rw [if_pos he,List.append_nil] at h2
     rw [he]
     have:acc++l.take (fl l)::splitL []=acc++[l.take (fl l)]++[[]]:=by simp [splitL]
     rw [this]
     exact h2
    ·have d3:decide (((l.drop (fl l+1)).length:Int)=0)=false:=decide_eq_false (by have:=List.length_pos_iff.2 he; omega)
     rw [d3,cf]
     obtain ⟨zz,r,h1,h2⟩:=ih true (l.drop (fl l+1)) (mz || true) (m++[T.list 3 z' (l.take (fl l))]) (acc++[l.take (fl l)]) (by omega) (fun h=>by cases h) hdm (by rw [hm2l]; omega) hm2
     refine ⟨zz,r,h1, ?_⟩
     rw [if_neg he,List.append_assoc] at h2
     exact h2
   ·rw [if_neg hf,if_neg hf]
    have d2:decide ((-1:Int)<0)=true:=rfl
    obtain ⟨z',hc⟩:=clone39 true l (fun h=>by cases h) (by omega)
    rw [d2,ct,hc,callK_some,asT_t,asL_list,endB_nil,needC_true nA]
    exact ⟨_,_,rfl,hm.append (.cons ⟨z',rfl⟩ .nil)⟩
theorem lines22(z:Bool)(l:List T)(hz:z=false→l=[])(hl:∀y∈l,IsTok y)(hb:l.length≤90000) :
  ∃zz r,vr 30 0 [.t (.list 3 z l)] e0=some (.t (.list 1 zz r),e0)∧IsLines r (if l=[] then [] else splitL l):=by
 rw [eq30,R30]
 obtain ⟨zz,r,h1,h2⟩:=L22_spec l.length z l false [] [] (Nat.le_refl _) hz hl (by simp; omega) .nil
 exact ⟨zz,r,h1,by rw [List.nil_append] at h2; exact h2⟩
end Go.Proofs.Ytpfploolkmcalaa.VM
end
