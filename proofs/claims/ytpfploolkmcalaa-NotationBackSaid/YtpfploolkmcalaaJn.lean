/- Merged: Jn1 Jn2 Jn3 Jn4. Conditions: none. -/
import Derived.Test.YtpfploolkmcalaaProg
import Derived.Shelf.Strings.BuilderK
import Derived.Test.YtpfploolkmcalaaVmD
import Derived.WalkKit
import Derived.BigCall
import Derived.LoopTactic
set_option linter.all false
section
namespace Go.Proofs.Ytpfploolkmcalaa.VM
open Go Go.RowKit
def jnRen :Go.Shelf.Ren:=⟨fun | 166=>97 | 169=>98 | 240=>113 | 276=>119 | n=>n,fun | 0=>0 | 3=>3 | 4=>4 | 5=>5 | 9=>9 | 20=>20 | 37=>129 | 70=>128 | 72=>131 | 75=>133 | 80=>110 | 127=>143 | 164=>148 | n=>n,fun n=>n⟩
theorem jnLays166 :Go.Proofs.Lays.n166 Try.prog jnRen:={
 mixed:=by kernel_rfl,
 f166:=by kernel_rfl,
 f240:=by kernel_rfl,
 f276:=by kernel_rfl,
 t0:=Try.underlying0,
 a0:=Try.isAgg0,
 z0:=Try.sizeOf0,
 v0:=Try.zeroValue0,
 t3:=Try.underlying3,
 a3:=Try.isAgg3,
 z3:=Try.sizeOf3,
 v3:=Try.zeroValue3,
 t4:=Try.underlying4,
 a4:=Try.isAgg4,
 z4:=Try.sizeOf4,
 v4:=Try.zeroValue4,
 t9:=Try.underlying9,
 a9:=Try.isAgg9,
 z9:=Try.sizeOf9,
 v9:=Try.zeroValue9,
 t20:=Try.underlying20,
 a20:=Try.isAgg20,
 z20:=Try.sizeOf20,
 v20:=Try.zeroValue20,
 t37:=Try.underlying129,
 a37:=Try.isAgg129,
 z37:=Try.sizeOf129,
 v37:=Try.zeroValue129,
 t70:=Try.underlying128,
 a70:=Try.isAgg128,
 z70:=Try.sizeOf128,
 v70:=Try.zeroValue128,
 t72:=Try.underlying131,
 a72:=Try.isAgg131,
 z72:=Try.sizeOf131,
 v72:=Try.zeroValue131,
 t75:=Try.underlying133,
 a75:=Try.isAgg133,
 z75:=Try.sizeOf133,
 v75:=Try.zeroValue133,
 t164:=Try.underlying148,
 a164:=Try.isAgg148,
 z164:=Try.sizeOf148,
 v164:=Try.zeroValue148}
theorem jnLays169 :Go.Proofs.Lays.n169 Try.prog jnRen:={
 mixed:=by kernel_rfl,
 f169:=by kernel_rfl,
 t0:=Try.underlying0,
 a0:=Try.isAgg0,
 z0:=Try.sizeOf0,
 v0:=Try.zeroValue0,
 t3:=Try.underlying3,
 a3:=Try.isAgg3,
 z3:=Try.sizeOf3,
 v3:=Try.zeroValue3,
 t9:=Try.underlying9,
 a9:=Try.isAgg9,
 z9:=Try.sizeOf9,
 v9:=Try.zeroValue9,
 t37:=Try.underlying129,
 a37:=Try.isAgg129,
 z37:=Try.sizeOf129,
 v37:=Try.zeroValue129,
 t70:=Try.underlying128,
 a70:=Try.isAgg128,
 z70:=Try.sizeOf128,
 v70:=Try.zeroValue128,
 t72:=Try.underlying131,
 a72:=Try.isAgg131,
 z72:=Try.sizeOf131,
 v72:=Try.zeroValue131,
 t127:=Try.underlying143,
 a127:=Try.isAgg143,
 z127:=Try.sizeOf143,
 v127:=Try.zeroValue143}
theorem jnExtra :Go.Proofs.Builder.Extra Try.prog jnRen:={sizeBuilder:=by kernel_rfl,liesBuilder:=by kernel_rfl,t5:=Try.underlying5,a5:=Try.isAgg5,z5:=Try.sizeOf5,v5:=Try.zeroValue5,infoByte:=by kernel_rfl,cellsByte:=by kernel_rfl,sizeByte:=by kernel_rfl,neB5:=by decide}
theorem jn_write(B b:Nat)(bs:List Value)(s:ByteArray)(w:World)(h:Lib.IsBuilderF 131 5 B b bs w)(hlen:bs.length+s.size≤140737488355328)(hBw:B≤w.heap.size) :
  Calls Try.prog 97 #[.pointer (some ⟨b,0,none⟩), .string s] w fun e w'=>e= .returned (.tuple #[.int .i64 s.size, .nilIface])∧(Lib.BuilderAtF 131 5 B b (.pointer (some ⟨b,0,none⟩)) (bs++Lib.strCells s) w'∧Below B w w'∧Lib.OthersKept 5 (some b) w w'):=Any.Builder_WriteString_k jnLays166 jnExtra B b bs s w h hlen hBw
theorem jn_string(B b:Nat)(l:List UInt8)(w:World)(h:Lib.IsBuilderF 131 5 B b (Lib.byteCells l) w)(hBw:B≤w.heap.size) :
  Calls Try.prog 98 #[.pointer (some ⟨b,0,none⟩)] w fun e w'=>e= .returned (.string ⟨l.toArray⟩)∧(Lib.IsBuilderF 131 5 B b (Lib.byteCells l) w'∧Below B w w'):=Any.Builder_String_any_f jnLays169 jnExtra B b l w h hBw
end Go.Proofs.Ytpfploolkmcalaa.VM
end
section
namespace Go.Proofs.Ytpfploolkmcalaa.VM
open Go Go.RowKit
theorem jnHid{p:Prop}(h:p) :Hid p:=h
theorem jn_alloc_lt(w:World)(o:Obj) :w.heap.size<(w.alloc o).heap.size:=(Array.getElem?_eq_some_iff.1 (heap_alloc_new w o)).1
theorem jn_drop{A:Type}{xs:List A}{k:Nat}{x:A}(h:xs[k]? =some x) :xs.drop k=x::xs.drop (k+1):=by
 obtain ⟨h1,rfl⟩:=List.getElem?_eq_some_iff.1 h
 exact List.drop_eq_getElem_cons h1
theorem joinE_none{xs:List (Tk×Int)}(h:jline true xs=none) :joinE xs=([],1):=by unfold joinE; rw [h]
set_option maxHeartbeats 1000000 in
set_option maxRecDepth 100000 in
theorem join_calls(bk o c:Nat)(xs:List (Tk×Int))(w:World)
  (hcells:∀j x,xs[j]? =some x→w.cell? ⟨bk,o+j*3,none⟩=some (.int .i64 x.1.1)∧w.cell? ⟨bk,o+j*3+1,none⟩=some (.string x.1.2.1)∧w.cell? ⟨bk,o+j*3+2,none⟩=some (.int .i64 x.1.2.2))
  (hbk:bk<w.heap.size) (hN:xs.length≤140737488355328)
  (hC:∀(j:Nat) (x:Tk×Int),xs[j]? =some x→∀w',Calls Try.prog 96 #[.agg #[.int .i64 x.1.1, .string x.1.2.1, .int .i64 x.1.2.2]] w' fun e w''=>e= .returned (.int .i64 x.2)∧Below w'.heap.size w' w'')
  (hlen:(joinE xs).2=0→(jtext [] xs).length≤140737488355328):
  Calls Try.prog 46 #[.slice (some ⟨bk,o,none⟩) xs.length c] w fun e w'=>e= .returned (.tuple #[.string ⟨(joinE xs).1.toArray⟩, .int .i64 (joinE xs).2])∧Below w.heap.size w w':=by
 have HC:=jnHid hcells
 have HK:=jnHid hC
 have HL:=jnHid hlen
 clear hcells hC hlen
 go_enter Try.func46,Try.ntmps46
 go_wp2_with fail
 go_loopw [4,13] (fun b i wr=>∃(k:Nat) (l:Bool),k≤xs.length∧i= .int .i64 k∧b= .bool l∧Hid (jline true xs=jline l (xs.drop k))∧Hid (Below w.heap.size w wr)) (fun _ i _=>xs.length - (intOf i).toNat)
 case atStart=>exact ⟨0,true,Nat.zero_le _,rfl,rfl,jnHid rfl,jnHid (Below.refl _ _)⟩
 case round=>
  obtain ⟨k,l,hk,rfl,rfl,HJ,HW⟩:=hrel
  by_cases hkr:k<xs.length
  ·obtain ⟨x,hx⟩:∃x,xs[k]? =some x:=⟨xs[k],List.getElem?_eq_getElem hkr⟩
   obtain ⟨c0,c1,c2⟩:=HC.out k x hx
   have d0:wr.cell? ⟨bk,o+k*3,none⟩=some (.int .i64 x.1.1):=by rw [HW.out.cell (p:=⟨bk,o+k*3,none⟩) hbk]; exact c0
   have d1:wr.cell? ⟨bk,o+k*3+1,none⟩=some (.string x.1.2.1):=by rw [HW.out.cell (p:=⟨bk,o+k*3+1,none⟩) hbk]; exact c1
   have d2:wr.cell? ⟨bk,o+k*3+2,none⟩=some (.int .i64 x.1.2.2):=by rw [HW.out.cell (p:=⟨bk,o+k*3+2,none⟩) hbk]; exact c2
   clear c0 c1 c2
   have HX:=jnHid hx
   clear hx
   go_wp2_with fail
   refine (HK.out k x HX.out _).mono ?_
   rintro e w2 ⟨rfl,hb2⟩
   have hsz:wr.heap.size<(wr.alloc (Obj.cells #[Value.int .i64 x.1.1,Value.string x.1.2.1,Value.int .i64 x.1.2.2] 103)).heap.size:=jn_alloc_lt _ _
   have e0:w2.cell? ⟨wr.heap.size,0,none⟩=some (.int .i64 x.1.1):=by rw [hb2.cell (p:=⟨wr.heap.size,0,none⟩) hsz,Lib.cell_of_heap (heap_alloc_new wr _)]; rfl
   have HW2:=jnHid ((HW.out.alloc HW.out.size (Obj.cells #[Value.int .i64 x.1.1,Value.string x.1.2.1,Value.int .i64 x.1.2.2] 103)).trans (hb2.mono (Nat.le_trans HW.out.size (Nat.le_of_lt hsz))))
   clear hb2 d0 d1 d2
   have HD:=jnHid (jn_drop HX.out)
   go_wp2
   ·rename_i q1 q2 q3
    go_ret2
    refine ⟨?_,HW2.out⟩
    have:joinE xs=([],1):=joinE_none (by rw [HJ.out,HD.out,jline,if_neg (fun h=>h.2 ⟨q2,by simpa using q3⟩)])
    rw [this]
    rfl
   ·rename_i q1 q2 q3
    refine ⟨⟨k+1,false,by omega,by go_num,rfl,jnHid ?_,HW2⟩,by simp [intOf]; omega⟩
    rw [HJ.out,HD.out,jline,if_pos ⟨q1,fun h=>by simp [h.2] at q3⟩]
    have:decide (x.1.1=4)=false:=by simpa using q3
    rw [this]
   ·rename_i q1 q2
    refine ⟨⟨k+1,x.1.1==4,by omega,by go_num,rfl,jnHid ?_,HW2⟩,by simp [intOf]; omega⟩
    rw [HJ.out,HD.out,jline,if_pos ⟨q1,fun h=>q2 h.1⟩]
    rfl
   ·rename_i q1
    go_ret2
    refine ⟨?_,HW2.out⟩
    have:joinE xs=([],1):=joinE_none (by rw [HJ.out,HD.out,jline,if_neg (fun h=>q1 h.1)])
    rw [this]
    rfl
  ·have hke:k=xs.length:=by omega
   subst hke
   have HJ2:=jnHid (HJ.out.trans (by rw [List.drop_length]; rfl:_=some l))
   clear HJ
   go_wp2_with fail
   rotate_left 2
   ·rename_i q1 q2
    go_ret2
    refine ⟨?_,HW.out⟩
    have:joinE xs=([],2):=by unfold joinE; rw [HJ2.out]; exact (if_neg (fun h=>q1 h.1)).trans (if_pos (by omega))
    rw [this]
    rfl
   rotate_left 1
   ·rename_i q1 q2
    go_ret2
    refine ⟨?_,HW.out⟩
    have:joinE xs=([],1):=by unfold joinE; rw [HJ2.out]; exact if_pos ⟨q1,q2⟩
    rw [this]
    rfl
   all_goals
    rename_i q2 q3 K1 a1
    rename World=>w1
    have hj0:joinE xs=(jtext [] xs,0):=by
     unfold joinE
     rw [HJ2.out]
     refine (if_neg (fun h=> ?_)).trans (if_neg (by omega))
     obtain ⟨h1,h2⟩:=h
     first | omega | contradiction
    clear q2
    have HL2:=jnHid (HL.out (by rw [hj0]))
    have HJ0:=jnHid hj0
    clear hj0 HL HJ2 HK
    have H0:=jnHid (Lib.IsBuilderF.of (Lib.fresh_isBuilder 131 5 w1))
    have hbk2:bk<w1.heap.size:=Nat.lt_of_lt_of_le hbk HW.out.size
    have HC2:=jnHid (fun (j:Nat) (x:Tk×Int) (h:xs[j]? =some x)=>by
     obtain ⟨c0,c1,c2⟩:=HC.out j x h
     rw [←HW.out.cell (p:=⟨bk,o+j*3,none⟩) hbk] at c0
     rw [←HW.out.cell (p:=⟨bk,o+j*3+1,none⟩) hbk] at c1
     rw [←HW.out.cell (p:=⟨bk,o+j*3+2,none⟩) hbk] at c2
     exact (⟨c0,c1,c2⟩:w1.cell? ⟨bk,o+j*3,none⟩=some (.int .i64 x.1.1)∧w1.cell? ⟨bk,o+j*3+1,none⟩=some (.string x.1.2.1)∧w1.cell? ⟨bk,o+j*3+2,none⟩=some (.int .i64 x.1.2.2)))
    clear HC
    go_loopw [8,45] (fun s i wr=>∃(k:Nat) (sp out:List UInt8),k≤xs.length∧i= .int .i64 k∧s= .string ⟨sp.toArray⟩∧Hid (out++jtext sp (xs.drop k)=jtext [] xs)∧Hid (Lib.IsBuilderF 131 5 w1.heap.size w1.heap.size (Lib.byteCells out) wr)∧Hid (Below w1.heap.size w1 wr)) (fun _ i _=>xs.length - (intOf i).toNat)
    case atStart=>exact ⟨0,[],[],Nat.zero_le _,rfl,rfl,jnHid rfl,H0,jnHid ((Below.refl _ _).alloc (Nat.le_refl _) _)⟩
    case round=>
     obtain ⟨k,sp,out,hk,rfl,rfl,HT,HB,HW3⟩:=hrel
     by_cases hkr:k<xs.length
     ·obtain ⟨x,hx⟩:∃x,xs[k]? =some x:=⟨xs[k],List.getElem?_eq_getElem hkr⟩
      obtain ⟨c0,c1,c2⟩:=HC2.out k x hx
      rw [←HW3.out.cell (p:=⟨bk,o+k*3,none⟩) hbk2] at c0
      rw [←HW3.out.cell (p:=⟨bk,o+k*3+1,none⟩) hbk2] at c1
      rw [←HW3.out.cell (p:=⟨bk,o+k*3+2,none⟩) hbk2] at c2
      have HD:=jnHid (jn_drop hx)
      clear hx
      go_wp2_with fail
      ·rename_i q
       refine ⟨⟨k+1,[10],out,by omega,by go_num,rfl,jnHid ?_,jnHid (HB.out.alloc _),jnHid (HW3.out.alloc HW3.out.size _)⟩,by simp [intOf]; omega⟩
       have:=HT.out
       rw [HD.out,jtext,if_pos (by simpa using q)] at this
       exact this
      ·rename_i q K2 a2 K3 a3
       have ht:out++(sp++(x.1.2.1.data.toList++jtext [32] (xs.drop (k+1))))=jtext [] xs:=by
        have:=HT.out
        rw [HD.out,jtext,if_neg (by simpa using q)] at this
        exact this
       have hlen:out.length+(sp.length+(x.1.2.1.data.toList.length+(jtext [32] (xs.drop (k+1))).length))≤140737488355328:=by
        have:=HL2.out
        rw [←ht] at this
        simpa only [List.length_append] using this
       have HT2:=jnHid ht
       clear ht HT HD
       have hlt:w1.heap.size<wr.heap.size:=HB.out.elim (fun h=>h.lt) (fun h=>h.lt)
       have hsp:(⟨sp.toArray⟩:ByteArray).size=sp.length:=by simp [ByteArray.size]
       refine (jn_write w1.heap.size w1.heap.size _ ⟨sp.toArray⟩ _ (HB.out.alloc _) (by rw [Lib.byteCells_length,hsp]; omega) (Nat.le_trans (Nat.le_of_lt hlt) (Nat.le_of_lt (jn_alloc_lt _ _)))).mono ?_
       rintro e w3 ⟨rfl,h3,hb3,ho3⟩
       have e1:w3.cell? ⟨wr.heap.size,1,none⟩=some (.string x.1.2.1):=by
        rw [Lib.cell_of_heap (ho3 _ _ (heap_alloc_new wr _) (fun h=>by have:=Option.some.inj h; omega) (fun c fz h=>by cases h))]
        rfl
       have HB3:=jnHid h3
       have HW4:=jnHid ((HW3.out.alloc HW3.out.size _).trans hb3)
       clear h3 hb3 ho3 c0 c1 c2
       go_wp2_with fail
       have hSz:x.1.2.1.size=x.1.2.1.data.toList.length:=Lib.size_eq _
       refine (jn_write w1.heap.size w1.heap.size _ x.1.2.1 w3 (Or.inr HB3.out) (by rw [List.length_append,Lib.byteCells_length,Lib.strCells_length,hsp,hSz]; omega) HW4.out.size).mono ?_
       rintro e w4 ⟨rfl,h4,hb4,ho4⟩
       rw [Lib.strCells_eq,Lib.strCells_eq,←Lib.byteCells_append,←Lib.byteCells_append] at h4
       have HB4:=jnHid (Or.inr h4:Lib.IsBuilderF 131 5 w1.heap.size w1.heap.size _ w4)
       have HW5:=jnHid (HW4.out.trans hb4)
       clear h4 hb4 ho4 e1
       go_wp2
       refine ⟨⟨k+1,[32],_,by omega,by go_num,rfl,jnHid ?_,HB4,HW5⟩,by simp [intOf]; omega⟩
       rw [List.append_assoc,List.append_assoc]
       exact HT2.out
     ·have hke:k=xs.length:=by omega
      subst hke
      go_wp2_with fail
      refine (jn_string w1.heap.size w1.heap.size _ wr HB.out HW3.out.size).mono ?_
      rintro e w5 ⟨rfl,_,hb5⟩
      have HW6:=jnHid (HW.out.trans ((HW3.out.trans hb5).mono HW.out.size))
      clear hb5
      go_wp2
      go_ret2
      refine ⟨?_,HW6.out⟩
      rw [HJ0.out]
      have:=HT.out
      rw [List.drop_length,jtext,List.append_nil] at this
      rw [this]
      rfl
set_option maxHeartbeats 1000000 in
set_option maxRecDepth 100000 in
theorem join_calls0(ao:Option Addr)(c:Nat)(w:World) :
  Calls Try.prog 46 #[.slice ao 0 c] w fun e w'=>e= .returned (.tuple #[.string ⟨#[]⟩, .int .i64 0])∧Below w.heap.size w w':=by
 go_enter Try.func46,Try.ntmps46
 go_wp2_with fail
 go_loopw [4,13] (fun b i wr=>i= .int .i64 0∧b= .bool true∧wr=w) (fun _ _ _=>0)
 case atStart=>exact ⟨rfl,rfl,rfl⟩
 case round=>
  obtain ⟨rfl,rfl,rfl⟩:=hrel
  rename World=>w0
  go_wp2_with fail
  have H0:=jnHid (Lib.IsBuilderF.of (Lib.fresh_isBuilder 131 5 w0))
  go_loopw [8,45] (fun s i wr=>i= .int .i64 0∧Hid (Lib.IsBuilderF 131 5 w0.heap.size w0.heap.size (Lib.byteCells []) wr)∧Hid (Below w0.heap.size w0 wr)) (fun _ _ _=>0)
  case atStart=>exact ⟨rfl,H0,jnHid ((Below.refl _ _).alloc (Nat.le_refl _) _)⟩
  case round=>
   obtain ⟨rfl,HB,HW⟩:=hrel
   go_wp2_with fail
   refine (jn_string w0.heap.size w0.heap.size _ wr HB.out HW.out.size).mono ?_
   rintro e w5 ⟨rfl,_,hb5⟩
   have HW6:=jnHid (HW.out.trans hb5)
   clear hb5
   go_wp2
   go_ret2
   exact ⟨rfl,HW6.out⟩
end Go.Proofs.Ytpfploolkmcalaa.VM
end
section
namespace Go.Proofs.Ytpfploolkmcalaa.VM
open Go AM Go.RowKit
set_option linter.unusedVariables false
set_option linter.unusedSimpArgs false
def bare(N:Nat) :Hp:={base:=N,old:=fun _=>none,new:=fun _=>none,maps:=fun _=>none,next:=N,low:=N}
theorem bare_sim(w:World) :Sim w.heap.size w (fun _=>none) (bare w.heap.size) w where
 below:=Below.refl _ _
 low:=Nat.le_refl _
 base:=rfl
 first:=Nat.le_refl _
 old:=fun a v hv=>by cases hv
 dom:=fun _ _ h=>by cases h
 new:=fun _ _ h=>by cases h
 maps:=fun _ _ h=>by cases h
 apart:=fun _ _ _ _ _ _ h=>by cases h
 mapsApart:=fun _ _ _ _ _ _ h=>by cases h
 free:=fun _ h=>by cases h
theorem bare_sm(N:Nat) :Sm (fun _=>False) (fun _=>False) (fun _=>none) ⟨[],[]⟩ (bare N) where
 ok:=⟨fun r b h=>(by cases h),fun r es h=>(by cases h),fun a v h=>(by cases h),Nat.le_refl _⟩
 fLt:=fun r h=>by rcases h with h | h <;>exact h.elim
 blk:=fun id b h=>by cases h
 inj:=fun id1 b1 id2 b2 r k1 k2 h=>by cases h
 apart:=fun id b r k h=>by cases h
 gUsed:=fun id g h=>by cases h
abbrev CallA :=FuncId→List Value→Hp→Option (Value×Hp)
def resA(r:Option (Value×Hp)) :Option Int:=match r with | some (.int .i64 n,_)=>some n | _=>none
def tokA(t:Tk) :Value:= .agg #[.int .i64 t.1, .string t.2.1, .int .i64 t.2.2]
open Classical in
noncomputable def chkA(call:CallA)(chk:Nat)(t:Tk) :Option Int:=
 match resA (call chk [tokA t] (bare 0)) with
 | some n=>if ∀N,resA (call chk [tokA t] (bare N))=some n then some n else none
 | none=>none
noncomputable def chksA(call:CallA)(chk:Nat) :List Tk→Option (List (Tk×Int))
 | []=>some []
 | t::l=>match chkA call chk t,chksA call chk l with
  | some e,some r=>some ((t,e)::r)
  | _,_=>none
def toksA :List Value→Option (List Tk)
 | []=>some []
 | .int .i64 k:: .string s:: .int .i64 n::r=>(toksA r).map ((k,s,n):: ·)
 | _=>none
noncomputable def joinA(call:CallA)(chk:Nat)(l:List Value)(h:Hp) :Option Value:=
 match l with
 | [.slice a n c]=>srcC h 3 n (.slice a n c) fun cs=>(toksA cs).bind fun ts=>needC (decide (ts.length=n)) fun _=>(chksA call chk ts).bind fun xs=>needC (joinOk xs) fun _=>some (.tuple #[.string ⟨(joinE xs).1.toArray⟩, .int .i64 (joinE xs).2])
 | _=>none
theorem resA_some{r:Option (Value×Hp)}{n:Int}(h:resA r=some n) :∃h',r=some (.int .i64 n,h'):=by
 unfold resA at h
 split at h
 ·cases h; exact ⟨_,rfl⟩
 ·cases h
theorem chkA_some{call:CallA}{chk:Nat}{t:Tk}{n:Int}(h:chkA call chk t=some n) :∀N,∃h',call chk [tokA t] (bare N)=some (.int .i64 n,h'):=by
 unfold chkA at h
 split at h
 ·split at h
  ·rename_i hall
   cases h
   exact fun N=>resA_some (hall N)
  ·cases h
 ·cases h
theorem chkA_of{call:CallA}{chk:Nat}{t:Tk}{n:Int}(h:∀N,∃h',call chk [tokA t] (bare N)=some (.int .i64 n,h')) :chkA call chk t=some n:=by
 have h1:∀N,resA (call chk [tokA t] (bare N))=some n:=fun N=>by obtain ⟨h',e⟩:=h N; rw [e]; rfl
 unfold chkA
 rw [h1 0]
 exact if_pos h1
theorem chksA_mono{c c':CallA}(h:∀g vs h r,c g vs h=some r→c' g vs h=some r)(chk:Nat) :∀{l:List Tk} {xs:List (Tk×Int)},chksA c chk l=some xs→chksA c' chk l=some xs
 | [],xs,hx=>hx
 | t::l,xs,hx=>by
  rw [chksA] at hx ⊢
  split at hx
  ·rename_i e r h1 h2
   have h3:chkA c' chk t=some e:=chkA_of fun N=>by obtain ⟨h',e⟩:=chkA_some h1 N; exact ⟨h',h _ _ _ _ e⟩
   rw [h3,chksA_mono h chk h2]
   exact hx
  ·cases hx
theorem joinA_mono(chk:Nat){c c':CallA}(h:∀g vs h r,c g vs h=some r→c' g vs h=some r)(vs:List Value)(hp:Hp)(v:Value)(hv:joinA c chk vs hp=some v) :joinA c' chk vs hp=some v:=by
 unfold joinA at hv ⊢
 split at hv
 ·rename_i a n d
  have:∀cs,((toksA cs).bind fun ts=>needC (decide (ts.length=n)) fun _=>(chksA c chk ts).bind fun xs=>needC (joinOk xs) fun _=>some (Value.tuple #[.string ⟨(joinE xs).1.toArray⟩, .int .i64 (joinE xs).2]))=some v→
    ((toksA cs).bind fun ts=>needC (decide (ts.length=n)) fun _=>(chksA c' chk ts).bind fun xs=>needC (joinOk xs) fun _=>some (Value.tuple #[.string ⟨(joinE xs).1.toArray⟩, .int .i64 (joinE xs).2]))=some v:=by
   intro cs hk
   obtain ⟨ts,h1,hk⟩:=Option.bind_eq_some_iff.1 hk
   obtain ⟨h2,hk⟩:=needC_some hk
   obtain ⟨xs,h3,hk⟩:=Option.bind_eq_some_iff.1 hk
   rw [h1]
   simp only [Option.bind_some,h2,needC,cond_true,chksA_mono h chk h3]
   exact hk
  unfold srcC at hv ⊢
  cases a with
  | none=>exact this _ hv
  | some ad=>
   dsimp only at hv ⊢
   cases hr:hp.rawCells ad 0 (n*3) with
   | none=>rw [hr] at hv; cases hv
   | some cs=>rw [hr] at hv; exact this _ hv
 ·cases hv
theorem toksA_same{B:Nat}{ρ:Places} :∀{cs cs':List Value} {ts:List Tk},toksA cs=some ts→VRels B ρ cs cs'→cs'=cs
 | [],_,ts,_,hr=>by cases hr; rfl
 | [_],_,ts,h,hr=>by unfold toksA at h; split at h <;>first | (rename_i e; cases e; done) | (cases h; done) | (rename_i e _; cases e; done) | skip
 | [_,_],_,ts,h,hr=>by unfold toksA at h; split at h <;>first | (rename_i e; cases e; done) | (cases h; done) | (rename_i e _; cases e; done) | skip
 | x::y::z::r,cs',ts,h,hr=>by
  unfold toksA at h
  split at h
  ·rename_i e; cases e
  ·rename_i k s n r' e
   cases e
   obtain ⟨ts',h1,_⟩:=Option.map_eq_some_iff.1 h
   cases hr with
   | cons a hr=>
    cases hr with
    | cons b hr=>
     cases hr with
     | cons c hr=>
      cases a; cases b; cases c
      rw [toksA_same h1 hr]
  ·cases h
theorem toksA_get :∀{cs:List Value} {ts:List Tk},toksA cs=some ts→cs.length=ts.length*3∧∀(j:Nat) (t:Tk),ts[j]? =some t→cs[j*3]? =some (.int .i64 t.1)∧cs[j*3+1]? =some (.string t.2.1)∧cs[j*3+2]? =some (.int .i64 t.2.2):=by
 intro cs
 induction cs using toksA.induct with
 | case1=>intro ts h; cases h; exact ⟨rfl,fun j t ht=>by simp at ht⟩
 | case2 k s n r ih=>
  intro ts h
  rw [toksA] at h
  obtain ⟨ts',h1,rfl⟩:=Option.map_eq_some_iff.1 h
  obtain ⟨h2,h3⟩:=ih h1
  refine ⟨by simp [h2]; omega,fun j t ht=> ?_⟩
  cases j with
  | zero=>simp at ht; subst ht; exact ⟨rfl,rfl,rfl⟩
  | succ j=>
   obtain ⟨a,b,c⟩:=h3 j t (by simpa using ht)
   have e:(j+1)*3=j*3+3:=by omega
   rw [e]
   exact ⟨by simpa using a,by simpa using b,by simpa using c⟩
 | case3 l h1 h2=>
  intro ts h
  unfold toksA at h
  split at h
  ·exact absurd rfl h1
  ·exact absurd rfl (h2 _ _ _ _)
  ·cases h
theorem chksA_get{call:CallA}{chk:Nat} :∀{ts:List Tk} {xs:List (Tk×Int)},chksA call chk ts=some xs→xs.map (·.1)=ts∧∀x∈xs,chkA call chk x.1=some x.2
 | [],xs,h=>by cases h; exact ⟨rfl,fun x hx=>by cases hx⟩
 | t::ts,xs,h=>by
  rw [chksA] at h
  split at h
  ·rename_i e r h1 h2
   cases h
   obtain ⟨h3,h4⟩:=chksA_get h2
   refine ⟨by simp [h3],fun x hx=> ?_⟩
   rcases List.mem_cons.1 hx with rfl | hx
   ·exact h1
   ·exact h4 x hx
  ·cases h
theorem joinA_ok{call:CallA}{l:List Value}{h:Hp}{v:Value}(hv:joinA call 96 l h=some v)(hc:∀B W,CallOK Try.prog B W call){B:Nat}{W:World}{ρ:Places}{w:World}{vs':Array Value}(s:Sim B W ρ h w)(hr:VRels B ρ l vs'.toList) :
  Calls Try.prog 46 vs' w fun e w'=>Below w.heap.size w w'∧∃v',e= .returned v'∧VRel B ρ v v':=by
 unfold joinA at hv
 split at hv
 ·rename_i a n d
  obtain ⟨l'⟩:=vs'
  obtain ⟨x',hx,rfl⟩:∃x',VRel B ρ (.slice a n d) x'∧l'=[x']:=by
   cases hr with
   | cons h1 h2=>cases h2; exact ⟨_,h1,rfl⟩
  obtain ⟨cs,cs',b',d',hk,hrel,rfl,hnil,hsome⟩:=srcC_slice s hx (Nat.le_refl _) hv
  obtain ⟨ts,h1,hk⟩:=Option.bind_eq_some_iff.1 hk
  obtain ⟨h2,hk⟩:=needC_some hk
  obtain ⟨xs,h3,hk⟩:=Option.bind_eq_some_iff.1 hk
  obtain ⟨h4,hk⟩:=needC_some hk
  cases hk
  have h2:ts.length=n:=of_decide_eq_true h2
  obtain ⟨h5,h6⟩:=chksA_get h3
  have hlx:xs.length=n:=by rw [←h2,←h5]; simp
  have fin:∀e w',e=Ending.returned (.tuple #[.string ⟨(joinE xs).1.toArray⟩, .int .i64 (joinE xs).2])∧Below w.heap.size w w'→Below w.heap.size w w'∧∃v',e= .returned v'∧VRel B ρ (.tuple #[.string ⟨(joinE xs).1.toArray⟩, .int .i64 (joinE xs).2]) v':=
   fun e w' ⟨e1,e2⟩=>⟨e2,_,e1, .tuple (.cons (.string _) (.cons (.int _ _) .nil))⟩
  cases n with
  | zero=>
   have hxs:xs=[]:=List.length_eq_zero_iff.1 hlx
   subst hxs
   exact (join_calls0 b' d' w).mono fin
  | succ m=>
   obtain ⟨h7,h8⟩:=toksA_get h1
   have hcs':=toksA_same h1 hrel
   subst hcs'
   obtain ⟨ad,hb⟩:∃ad,a=some ad:=by
    cases a with
    | none=>
     have:=(hnil rfl).2
     rw [this] at h7
     simp at h7
     omega
    | some ad=>exact ⟨ad,rfl⟩
   obtain ⟨_,ad',rfl,hcell⟩:=hsome ad hb
   have hsp:ad'.spot=none∧ad'.block<w.heap.size:=by
    obtain ⟨t0,ht0⟩:∃t,ts[0]? =some t:=⟨ts[0],List.getElem?_eq_getElem (by omega)⟩
    have:=hcell 0 _ (h8 0 t0 ht0).1
    unfold World.cell? at this
    split at this
    ·rename_i c t fz hb
     refine ⟨?_,(Array.getElem?_eq_some_iff.1 hb).1⟩
     have e0:(ad'.add 0)=ad':=if_pos rfl
     rw [e0] at this
     cases hs:ad'.spot with
     | none=>rfl
     | some q=>rw [hs] at this; simp at this
    ·cases this
   obtain ⟨bk,o,sp⟩:=ad'
   obtain ⟨hsp,hblk⟩:=hsp
   simp only at hsp
   subst hsp
   have hadd:∀j,(⟨bk,o,none⟩:Addr).add j=⟨bk,o+j,none⟩:=fun j=>by
    unfold Addr.add
    split
    ·rename_i e; rw [e]; rfl
    ·rfl
   have hok:xs.length≤140737488355328∧((joinE xs).2=0→(jtext [] xs).length≤140737488355328):=by
    unfold joinOk at h4
    simp only [Bool.and_eq_true,decide_eq_true_eq,Bool.or_eq_true,Bool.not_eq_true',decide_eq_false_iff_not] at h4
    exact ⟨h4.1,fun e=>h4.2.resolve_left (fun h=>h e)⟩
   rw [←hlx]
   refine (join_calls bk o d' xs w (fun j x hj=> ?_) hblk hok.1 (fun j x hj w'=> ?_) hok.2).mono fin
   ·have ht:ts[j]? =some x.1:=by rw [←h5]; simp [hj]
    obtain ⟨c0,c1,c2⟩:=h8 j x.1 ht
    have e0:=hcell _ _ c0
    have e1:=hcell _ _ c1
    have e2:=hcell _ _ c2
    rw [hadd] at e0 e1 e2
    exact ⟨e0,e1,e2⟩
   ·obtain ⟨h',hcall⟩:=chkA_some (h6 x (List.mem_of_getElem? hj)) w'.heap.size
    obtain ⟨_,hcc⟩:=hc w'.heap.size w' _ _ _ _ _ hcall
    refine (hcc (fun _=>none) w' #[tokA x.1] (bare_sim w') (.cons (.agg (.cons (.int _ _) (.cons (.string _) (.cons (.int _ _) .nil)))) .nil)).mono ?_
    rintro e w'' ⟨v',rfl,ρ',_,hs,hv'⟩
    cases hv'
    exact ⟨rfl,hs.below⟩
 ·cases hv
end Go.Proofs.Ytpfploolkmcalaa.VM
end
section
namespace Go.Proofs.Ytpfploolkmcalaa.VM
open Go AM Go.RowKit
set_option linter.unusedVariables false
set_option linter.unusedSimpArgs false
theorem aN_ov{P:Program}{HA:AM.Hint}{k f:Nat}{us:List Value}{h:Hp}{u:Value}(ho:HA.isOv f=true)(hv:HA.ov (aN P HA k) f us h=some u) :aN P HA (k+1) f us h=some (u,h):=by
 unfold aN
 rw [ho,hv]
 rfl
def cells3 :List T→(Nat→Value)→List Value
 | [],_=>[]
 | _::l,f=>f 0::f 1::f 2::cells3 l fun j=>f (j+3)
theorem cells3_length :∀(l:List T) (f:Nat→Value),(cells3 l f).length=l.length*3
 | [],_=>rfl
 | _::l,f=>by simp [cells3,cells3_length l]; omega
theorem cells3_get :∀(l:List T) (f:Nat→Value) (j:Nat) (u:Value),(cells3 l f)[j]? =some u→u=f j∧j<l.length*3
 | [],_,j,u,h=>by simp [cells3] at h
 | _::l,f,j,u,h=>by
  match j with
  | 0=>simp [cells3] at h; exact ⟨h.symm,by simp⟩
  | 1=>simp [cells3] at h; exact ⟨h.symm,by simp; omega⟩
  | 2=>simp [cells3] at h; exact ⟨h.symm,by simp; omega⟩
  | j+3=>
   have h:(cells3 l fun j=>f (j+3))[j]? =some u:=by simpa [cells3] using h
   obtain ⟨h1,h2⟩:=cells3_get l _ j u h
   exact ⟨h1,by simp; omega⟩
theorem tokV_some{x:T}{t:Tk}(h:tokV x=some t) :x= .agg [.int .i64 t.1, .str t.2.1, .int .i64 t.2.2]:=by
 unfold tokV at h
 split at h
 ·cases h; rfl
 ·cases h
theorem chksV_get{call:CallF}{chk:Nat} :∀{l:List T} {xs:List (Tk×Int)},chksV call chk l=some xs→l=xs.map (fun x=> .agg [.int .i64 x.1.1, .str x.1.2.1, .int .i64 x.1.2.2])∧∀x∈xs,∃st,call chk 0 [.t (.agg [.int .i64 x.1.1, .str x.1.2.1, .int .i64 x.1.2.2])] ⟨[],[]⟩=some (.t (.int .i64 x.2),st)
 | [],xs,h=>by cases h; exact ⟨rfl,fun x hx=>by cases hx⟩
 | y::l,xs,h=>by
  rw [chksV] at h
  split at h
  ·rename_i t e r h1 h2 h3
   cases h
   obtain ⟨h4,h5⟩:=chksV_get h3
   have hy:=tokV_some h1
   refine ⟨by rw [hy,h4]; rfl,fun x hx=> ?_⟩
   rcases List.mem_cons.1 hx with rfl | hx
   ·unfold resV1 at h2
    split at h2
    ·rename_i n st hc
     cases h2
     exact ⟨st,by rw [←hy]; exact hc⟩
    ·cases h2
   ·exact h5 x hx
  ·cases h
theorem toks_cells{z:Fz} :∀(xs:List (Tk×Int)) (f:Nat→Value),(∀i x j y,(xs.map fun x=>T.agg [.int .i64 x.1.1, .str x.1.2.1, .int .i64 x.1.2.2])[i]? =some x→x.cells[j]? =some y→SR z y (f (i*3+j)))→
  toksA (cells3 (xs.map fun x=>T.agg [.int .i64 x.1.1, .str x.1.2.1, .int .i64 x.1.2.2]) f)=some (xs.map (·.1))
 | [],f,_=>rfl
 | x::xs,f,h=>by
  have h0:=h 0 _ 0 _ rfl rfl
  have h1:=h 0 _ 1 _ rfl rfl
  have h2:=h 0 _ 2 _ rfl rfl
  have e0:f 0= .int .i64 x.1.1:=by revert h0; simp only [Nat.zero_mul,Nat.zero_add]; generalize f 0=u; intro h0; cases h0; rfl
  have e1:f 1= .string x.1.2.1:=by revert h1; simp only [Nat.zero_mul,Nat.zero_add]; generalize f 1=u; intro h0; cases h0; rfl
  have e2:f 2= .int .i64 x.1.2.2:=by revert h2; simp only [Nat.zero_mul,Nat.zero_add]; generalize f 2=u; intro h0; cases h0; rfl
  have ih:=toks_cells (z:=z) xs (fun j=>f (j+3)) (fun i y j u h3 h4=>by
   have:=h (i+1) y j u (by simpa using h3) h4
   rwa [show (i+1)*3+j=i*3+j+3 by omega] at this)
  rw [List.map_cons,cells3,e0,e1,e2,toksA,ih]
  rfl
theorem chks_A{P:Program}{HA:AM.Hint}{k chk:Nat}{call:CallF}(hc:CallOKV call (aN P HA k)) :∀{xs:List (Tk×Int)},(∀x∈xs,∃st,call chk 0 [.t (.agg [.int .i64 x.1.1, .str x.1.2.1, .int .i64 x.1.2.2])] ⟨[],[]⟩=some (.t (.int .i64 x.2),st))→chksA (aN P HA k) chk (xs.map (·.1))=some xs
 | [],_=>rfl
 | x::xs,h=>by
  have h1:chkA (aN P HA k) chk x.1=some x.2:=chkA_of fun N=>by
   obtain ⟨st,h2⟩:=h x (List.mem_cons_self ..)
   obtain ⟨F',G',u,h',h3,_,h4⟩:=hc _ _ _ _ _ _ h2 (fun _=>False) (fun _=>False) (fun _=>none) (bare N) [tokA x.1] (bare_sm N) (fun id g h=>by cases h) (.cons (.tagg (.cons (.int _ _) (.cons (.str _) (.cons (.int _ _) .nil)))) .nil)
   have hu:u= .int .i64 x.2:=by
    cases vr_t h4 with
    | one hr=>cases hr; rfl
   exact ⟨h',by rw [h3,hu]⟩
  rw [List.map_cons,chksA,h1,chks_A hc (fun y hy=>h y (List.mem_cons_of_mem _ hy))]
theorem join_v{P:Program}{HA:AM.Hint}{k chk:Nat}{call:CallF}{vs:List V}{v:V}(hv:joinV call chk vs=some v)(hc:CallOKV call (aN P HA k)){F N:NS}{G:GM}{h:Hp}{us:List Value}(hr:VRs (fz F h) G vs us) :
  ∃u,joinA (aN P HA k) chk us h=some u∧VR (fz F h) G v u:=by
 unfold joinV at hv
 split at hv
 ·rename_i nn ts
  obtain ⟨xs,h1,h2⟩:=Option.bind_eq_some_iff.1 hv
  obtain ⟨h3,h2⟩:=needC_some h2
  cases h2
  obtain ⟨h4,h5⟩:=chksV_get h1
  have h6:=chks_A hc h5
  refine ⟨.tuple #[.string ⟨(joinE xs).1.toArray⟩, .int .i64 (joinE xs).2], ?_, .tup (.cons (.t (.str _)) (.cons (.t (.int _ _)) .nil))⟩
  obtain ⟨u,hu,rfl⟩:∃u,VR (fz F h) G (.t (.list 3 nn ts)) u∧us=[u]:=by
   cases hr with
   | cons a b=>cases b; exact ⟨_,a,rfl⟩
  have fin:∀n cs,toksA cs=some (xs.map (·.1))→xs.length=n→((toksA cs).bind fun ts=>needC (decide (ts.length=n)) fun _=>(chksA (aN P HA k) chk ts).bind fun xs=>needC (joinOk xs) fun _=>some (Value.tuple #[.string ⟨(joinE xs).1.toArray⟩, .int .i64 (joinE xs).2]))=some (.tuple #[.string ⟨(joinE xs).1.toArray⟩, .int .i64 (joinE xs).2]):=by
   intro n cs h7 h8
   rw [h7]
   simp only [Option.bind_some,List.length_map,h8,decide_true,needC,cond_true,h6,h3]
  cases vr_t hu with
  | one hs=>
   cases hs with
   | nil=>
    have:xs=[]:=by simpa using h4.symm
    subst this
    exact fin 0 [] rfl rfl
   | @list _ _ a c f hsl hn hcell he=>
    have hl:ts.length=xs.length:=by rw [h4]; simp
    have htk:toksA (cells3 ts f)=some (xs.map (·.1)):=by rw [h4]; exact toks_cells xs f (fun i x j y h8 h9=>he i x j y (by rw [h4]; exact h8) h9)
    have hraw:h.rawCells a 0 (ts.length*3)=some (cells3 ts f):=by
     have:=raw_to (h:=h) (ad:=a) (us:=cells3 ts f) (k:=0) (fun j u hj=>by
      obtain ⟨rfl,h8⟩:=cells3_get _ _ _ _ hj
      rw [Nat.zero_add]
      exact (hcell j h8).2)
     rwa [cells3_length] at this
    unfold joinA srcC
    simp only [hraw]
    exact fin _ _ htk hl.symm
 ·cases hv
end Go.Proofs.Ytpfploolkmcalaa.VM
end
