/- Merged: Nc1 Nc2 Nc3 Nc4 Nc5. Conditions: none. -/
import Derived.Test.YtpfploolkmcalaaNx
import Derived.Test.YtpfploolkmcalaaVr1
import Derived.Test.YtpfploolkmcalaaNy
set_option linter.all false
section
namespace Go.Proofs.Ytpfploolkmcalaa.VM
set_option linter.unusedSectionVars false
set_option linter.unusedVariables false
open Go AM
set_option maxRecDepth 100000
def IsN :Nat→T→Prop
 | 0,_=>False
 | k+1,x=>∃op n s f1 ix f2 l,x= .agg [.int .i64 op, .int .i64 n, .str s, .list 1 f1 (strs ix), .list 5 f2 l]∧ix.length≤maxLen∧l.length≤maxLen∧∀y∈l,IsN k y
theorem strs_of :∀{l:List T},(∀y∈l,∃s,y= .str s)→∃ix:List ByteArray,l=strs ix
 | [],_=>⟨[],rfl⟩
 | x::l,h=>by
  obtain ⟨s,rfl⟩:=h x (List.mem_cons_self ..)
  obtain ⟨ix,rfl⟩:=strs_of fun y hy=>h y (List.mem_cons_of_mem _ hy)
  exact ⟨s::ix,rfl⟩
theorem ints_of :∀{l:List T},(∀y∈l,∃s,y= .int .i64 s)→∃ix:List Int,l=ints ix
 | [],_=>⟨[],rfl⟩
 | x::l,h=>by
  obtain ⟨s,rfl⟩:=h x (List.mem_cons_self ..)
  obtain ⟨ix,rfl⟩:=ints_of fun y hy=>h y (List.mem_cons_of_mem _ hy)
  exact ⟨s::ix,rfl⟩
theorem fit_str{k:Nat}{y:T}(h:fitE Try.prog k 9 y) :∃s,y= .str s:=by
 cases k with
 | zero=>exact h.elim
 | succ k=>
  obtain ⟨es,ag,ts,h1,rfl,h3⟩:=h
  have e:cellsD Try.prog 6 9=some ([.str],false):=by kernel_rfl
  rw [e] at h1
  cases h1
  match ts,h3 with
  | [t], .cons ⟨s,hs,_⟩ .nil=>exact ⟨s,hs⟩
theorem fit_int{k:Nat}{y:T}(h:fitE Try.prog k 3 y) :∃s,y= .int .i64 s:=by
 cases k with
 | zero=>exact h.elim
 | succ k=>
  obtain ⟨es,ag,ts,h1,rfl,h3⟩:=h
  have e:cellsD Try.prog 6 3=some ([.int .i64],false):=by kernel_rfl
  rw [e] at h1
  cases h1
  match ts,h3 with
  | [t], .cons ⟨s,hs,_⟩ .nil=>exact ⟨s,hs⟩
theorem cells_node :Try.prog.cellsOf 33=5∧Try.prog.cellsOf 9=1∧Try.prog.cellsOf 3=1:=by refine ⟨?_, ?_, ?_⟩ <;>kernel_rfl
theorem fit_node :∀(k:Nat) (y:T),fitE Try.prog k 33 y→IsN k y
 | 0,y,h=>h.elim
 | k+1,y,h=>by
  obtain ⟨es,ag,ts,h1,rfl,h3⟩:=h
  have e:cellsD Try.prog 6 33=some ([.int .i64, .int .i64, .str, .sl 9, .sl 33],true):=by kernel_rfl
  rw [e] at h1
  cases h1
  match ts,h3 with
  | [t0,t1,t2,t3,t4], .cons ⟨op,e0,_⟩ (.cons ⟨n,e1,_⟩ (.cons ⟨s,e2,_⟩ (.cons ⟨f1,l1,e3,b1,_,m1⟩ (.cons ⟨f2,l2,e4,b2,_,m2⟩ .nil))))=>
   subst e0 e1 e2 e3 e4
   obtain ⟨ix,rfl⟩:=strs_of fun y hy=>fit_str (m1 y hy)
   rw [cells_node.1,cells_node.2.1]
   exact ⟨op,n,s,f1,ix,f2,l2,rfl,by rw [←List.length_map (f:=T.str)]; exact b1,b2,fun y hy=>fit_node k y (m2 y hy)⟩
def DecRel(d:Dec)(x:T) :Prop:=∃f,x= .agg [.str d.s, .list 1 f (ints d.sh), .str d.f, .int .i64 d.k]
def IsS(x:T) :Prop:=∃s f ix op n sa f1 jx f2 l k,x= .agg [.str s, .list 1 f (strs ix), .int .i64 op, .int .i64 n, .str sa, .list 1 f1 (strs jx), .list 5 f2 l]∧ix.length≤maxLen∧IsN k (.agg [.int .i64 op, .int .i64 n, .str sa, .list 1 f1 (strs jx), .list 5 f2 l])
theorem fit_dec{k:Nat}{y:T}(h:fitE Try.prog k 68 y) :∃d,DecRel d y∧d.sh.length≤maxLen:=by
 cases k with
 | zero=>exact h.elim
 | succ k=>
  obtain ⟨es,ag,ts,h1,rfl,h3⟩:=h
  have e:cellsD Try.prog 6 68=some ([.str, .sl 3, .str, .int .i64],true):=by kernel_rfl
  rw [e] at h1
  cases h1
  match ts,h3 with
  | [t0,t1,t2,t3], .cons ⟨s,e0,_⟩ (.cons ⟨f1,l1,e1,b1,_,m1⟩ (.cons ⟨fm,e2,_⟩ (.cons ⟨k,e3,_⟩ .nil)))=>
   subst e0 e1 e2 e3
   obtain ⟨ix,rfl⟩:=ints_of fun y hy=>fit_int (m1 y hy)
   rw [cells_node.2.2]
   exact ⟨⟨s,ix,fm,k⟩,⟨f1,rfl⟩,by rw [←List.length_map (f:=(T.int .i64 ·))]; exact b1⟩
theorem fit_stm{k:Nat}{y:T}(h:fitE Try.prog k 60 y) :IsS y:=by
 cases k with
 | zero=>exact h.elim
 | succ k=>
  obtain ⟨es,ag,ts,h1,rfl,h3⟩:=h
  have e:cellsD Try.prog 6 60=some ([.str, .sl 9, .int .i64, .int .i64, .str, .sl 9, .sl 33],true):=by kernel_rfl
  rw [e] at h1
  cases h1
  match ts,h3 with
  | [t0,t1,t2,t3,t4,t5,t6], .cons ⟨s,e0,_⟩ (.cons ⟨f,l1,e1,b1,_,m1⟩ (.cons ⟨op,e2,_⟩ (.cons ⟨n,e3,_⟩ (.cons ⟨sa,e4,_⟩ (.cons ⟨f1,l2,e5,b2,_,m2⟩ (.cons ⟨f2,l3,e6,b3,_,m3⟩ .nil))))))=>
   subst e0 e1 e2 e3 e4 e5 e6
   obtain ⟨ix,rfl⟩:=strs_of fun y hy=>fit_str (m1 y hy)
   obtain ⟨jx,rfl⟩:=strs_of fun y hy=>fit_str (m2 y hy)
   rw [cells_node.1,cells_node.2.1]
   refine ⟨s,f,ix,op,n,sa,f1,jx,f2,l3,k+1,rfl,by rw [←List.length_map (f:=T.str)]; exact b1,op,n,sa,f1,jx,f2,l3,rfl,by rw [←List.length_map (f:=T.str)]; exact b2,b3,fun y hy=>fit_node k y (m3 y hy)⟩
theorem decs_of :∀{l:List T},(∀y∈l,∃d,DecRel d y∧d.sh.length≤maxLen)→∃D:List Dec,All2 DecRel D l∧∀d∈D,d.sh.length≤maxLen
 | [],_=>⟨[], .nil,fun d h=>by cases h⟩
 | x::l,h=>by
  obtain ⟨d,h1,h2⟩:=h x (List.mem_cons_self ..)
  obtain ⟨D,h3,h4⟩:=decs_of fun y hy=>h y (List.mem_cons_of_mem _ hy)
  refine ⟨d::D, .cons h1 h3,fun e he=> ?_⟩
  rcases List.mem_cons.1 he with rfl | he
  ·exact h2
  ·exact h4 e he
theorem fit_prog{x:T}(h:FitR Try.prog 26 x) :∃fD TD fS TS D,x= .agg [.list 4 fD TD, .list 7 fS TS]∧All2 DecRel D TD∧(∀d∈D,d.sh.length≤maxLen)∧TD.length≤maxLen∧TS.length≤maxLen∧∀y∈TS,IsS y:=by
 obtain ⟨k,h⟩:=h
 cases k with
 | zero=>exact h.elim
 | succ k=>
  obtain ⟨es,ag,ts,h1,rfl,h3⟩:=h
  have e:cellsD Try.prog 6 26=some ([.sl 68, .sl 60],true):=by kernel_rfl
  rw [e] at h1
  cases h1
  match ts,h3 with
  | [t0,t1], .cons ⟨fD,TD,e0,b0,_,m0⟩ (.cons ⟨fS,TS,e1,b1,_,m1⟩ .nil)=>
   subst e0 e1
   obtain ⟨D,h4,h5⟩:=decs_of fun y hy=>fit_dec (m0 y hy)
   have c1:Try.prog.cellsOf 68=4:=by kernel_rfl
   have c2:Try.prog.cellsOf 60=7:=by kernel_rfl
   rw [c1,c2]
   exact ⟨fD,TD,fS,TS,D,rfl,h4,h5,b0,b1,fun y hy=>fit_stm (m1 y hy)⟩
/-! ### small enough -/
abbrev SomeB(o:Option Res) :Prop:=∃b,o=some (.t (.bool b),e0)
theorem mx :maxLen≤9223372036854775807:=by decide
theorem nat64m{j:Nat}(h:j<9223372036854775807) :IntKind.i64.wrap ((j:Int)+1)=((j+1:Nat):Int):=by rw [wrap64 (by omega) (by omega)]; simp
theorem l16_4{H:Int}{op n:Int}{s:ByteArray}{f1 f2:Bool}{ix:List ByteArray}{l:List T}(hb:ix.length≤maxLen)(hc:SomeB (L16_10 H f2 l (l.length:Int) 0)) :∀(m i:Nat),m+i=ix.length→
  SomeB (L16_4 H f1 (strs ix) (ix.length:Int) (i:Int) op n s f1 (strs ix) f2 l)
 | 0,i,h=>by
  rw [L16_4_eq,RL16_4,decide_eq_false (by omega),cf]
  exact hc
 | m+1,i,h=>by
  have hi:i<ix.length:=by omega
  have hm:=mx
  rw [L16_4_eq,RL16_4,decide_eq_true (by omega),ct,needC_true (decide_eq_true (by omega)),Int.toNat_natCast,getT_map _ hi,asS_str]
  cases decide (100<(ix[i].size:Int)) with
  | true=>exact ⟨false,rfl⟩
  | false=>rw [cf,nat64m (by omega)]; exact l16_4 hb hc m (i+1) (by omega)
theorem few16 :∀(k:Nat) (x:T),IsN k x→∀H,SomeB (vr 16 0 [.t x, .t (.int .i64 H)] e0)
 | 0,x,h,H=>h.elim
 | k+1,x,h,H=>by
  obtain ⟨op,n,s,f1,ix,f2,l,rfl,b1,b2,hk⟩:=h
  have hm:=mx
  have kids:∀(m i:Nat),m+i=l.length→SomeB (L16_10 H f2 l (l.length:Int) (i:Int)):=by
   intro m
   induction m with
   | zero=>
    intro i h
    rw [L16_10_eq,RL16_10,decide_eq_false (by omega),cf]
    exact ⟨true,rfl⟩
   | succ m ih=>
    intro i h
    have hi:i<l.length:=by omega
    have hn:=hk _ (List.getElem_mem hi)
    obtain ⟨b,hb⟩:=few16 k _ hn (IntKind.i64.wrap (H - 1))
    cases k with
    | zero=>exact hn.elim
    | succ k=>
     obtain ⟨op2,n2,s2,g1,jx,g2,l2,e,_⟩:=hn
     rw [e] at hb
     have hg:∀{R:Type} (K:T→Option R),getT l i K=K l[i]:=fun K=>by unfold getT; rw [List.getElem?_eq_getElem hi]
     rw [L16_10_eq,RL16_10,decide_eq_true (by omega),ct,needC_true (decide_eq_true (by omega)),Int.toNat_natCast,hg,e,asA_agg,consT_cons,asI_int,consT_cons,asI_int,consT_cons,asS_str,consT_cons,asL_list,consT_cons,asL_list,endT_nil,hb,callK_some,asT_t,asB_bool,endB_nil]
     cases b with
     | false=>exact ⟨false,rfl⟩
     | true=>rw [bNT,cf,nat64m (by omega)]; exact ih (i+1) (by omega)
  have hl:(strs ix).length=ix.length:=List.length_map ..
  rw [eq16,R16,hl]
  cases decide (H=0) with
  | true=>exact ⟨false,rfl⟩
  | false=>
   rw [cf]
   cases decide (5<(l.length:Int)) with
   | true=>exact ⟨false,rfl⟩
   | false=>
    rw [cf]
    cases decide (10<(ix.length:Int)) with
    | true=>exact ⟨false,rfl⟩
    | false=>
     rw [cf]
     cases decide (100<(s.size:Int)) with
     | true=>exact ⟨false,rfl⟩
     | false=>rw [cf]; exact l16_4 b1 (kids l.length 0 (by omega)) ix.length 0 (by omega)
theorem l27_13{A I K:Bool}{B J L:List T}{C:Int}{D:Nat}{f:Bool}{ix:List ByteArray}(hb:ix.length≤maxLen)(hc:SomeB (L27_8 A B C (IntKind.i64.wrap ((D:Int)+1)) I J K L)) :∀(m i:Nat),m+i=ix.length→
  SomeB (L27_13 A B C (D:Int) f (strs ix) (ix.length:Int) (i:Int) I J K L)
 | 0,i,h=>by
  rw [L27_13_eq,RL27_13,decide_eq_false (by omega),cf]
  exact hc
 | m+1,i,h=>by
  have hi:i<ix.length:=by omega
  have hm:=mx
  rw [L27_13_eq,RL27_13,decide_eq_true (by omega),ct,needC_true (decide_eq_true (by omega)),Int.toNat_natCast,getT_map _ hi,asS_str]
  cases decide (100<(ix[i].size:Int)) with
  | true=>exact ⟨false,rfl⟩
  | false=>rw [cf,nat64m (by omega)]; exact l27_13 hb hc m (i+1) (by omega)
theorem l27_8{A I K:Bool}{J L TS:List T}(hb:TS.length≤maxLen)(hs:∀y∈TS,IsS y) :∀(m i:Nat),m+i=TS.length→SomeB (L27_8 A TS (TS.length:Int) (i:Int) I J K L)
 | 0,i,h=>by
  rw [L27_8_eq,RL27_8,decide_eq_false (by omega),cf]
  cases decide ((J.length:Int)≤40) with
  | true=>exact ⟨_,rfl⟩
  | false=>exact ⟨_,rfl⟩
 | m+1,i,h=>by
  have hi:i<TS.length:=by omega
  have hm:=mx
  obtain ⟨s,f,ix,op,n,sa,f1,jx,f2,l,k,e,hx,hn⟩:=hs _ (List.getElem_mem hi)
  obtain ⟨b,hb2⟩:=few16 k _ hn 20
  have hg:∀{R:Type} (K:T→Option R),getT TS i K=K TS[i]:=fun K=>by unfold getT; rw [List.getElem?_eq_getElem hi]
  have hl:(strs ix).length=ix.length:=List.length_map ..
  rw [L27_8_eq,RL27_8,decide_eq_true (by omega),ct,needC_true (decide_eq_true (by omega)),Int.toNat_natCast,hg,e,asA_agg,consT_cons,asS_str,consT_cons,asL_list,consT_cons,asI_int,consT_cons,asI_int,consT_cons,asS_str,consT_cons,asL_list,consT_cons,asL_list,endT_nil,hb2,callK_some,asT_t,asB_bool,endB_nil,hl]
  cases b with
  | false=>exact ⟨false,rfl⟩
  | true=>
   rw [bNT,cf]
   cases decide (20<(ix.length:Int)) with
   | true=>exact ⟨false,rfl⟩
   | false=>
    rw [cf]
    cases decide (100<(s.size:Int)) with
    | true=>exact ⟨false,rfl⟩
    | false=>
     rw [cf]
     exact l27_13 hx (by rw [nat64m (by omega)]; exact l27_8 hb hs m (i+1) (by omega)) ix.length 0 (by omega)
theorem l27_2{A E:Bool}{F TD TS:List T}{G:Bool}{D:List Dec}(hD:All2 DecRel D TD)(hb0:TD.length≤maxLen)(hb:TS.length≤maxLen)(hs:∀y∈TS,IsS y) :∀(m i:Nat),m+i=TD.length→SomeB (L27_2 A TD (TD.length:Int) (i:Int) E F G TS)
 | 0,i,h=>by
  rw [L27_2_eq,RL27_2,decide_eq_false (by omega),cf]
  exact l27_8 hb hs TS.length 0 (by omega)
 | m+1,i,h=>by
  have hi:i<TD.length:=by omega
  have hm:=mx
  have hlen:=hD.length
  obtain ⟨x,hx,f,e⟩:=hD.get (List.getElem?_eq_getElem (show i<D.length by omega))
  have hg:∀{R:Type} (K:T→Option R),getT TD i K=K x:=fun K=>by unfold getT; rw [hx]
  rw [L27_2_eq,RL27_2,decide_eq_true (by omega),ct,needC_true (decide_eq_true (by omega)),Int.toNat_natCast,hg,e,asA_agg,consT_cons,asS_str,consT_cons,asL_list,consT_cons,asS_str,consT_cons,asI_int,endT_nil]
  cases decide (20<((ints D[i].sh).length:Int)) with
  | true=>exact ⟨false,rfl⟩
  | false=>
   rw [cf]
   cases decide (200<IntKind.i64.wrap ((D[i].s.size:Int)+(D[i].f.size:Int))) with
   | true=>exact ⟨false,rfl⟩
   | false=>rw [cf,nat64m (by omega)]; exact l27_2 hD hb0 hb hs m (i+1) (by omega)
theorem few27{fD fS:Bool}{TD TS:List T}{D:List Dec}(hD:All2 DecRel D TD)(hb0:TD.length≤maxLen)(hb:TS.length≤maxLen)(hs:∀y∈TS,IsS y) :SomeB (vr 27 0 [.t (.agg [.list 4 fD TD, .list 7 fS TS])] e0):=by
 rw [eq27,R27]
 exact l27_2 hD hb0 hb hs TD.length 0 (by omega)
end Go.Proofs.Ytpfploolkmcalaa.VM
end
section
namespace Go.Proofs.Ytpfploolkmcalaa.VM
set_option linter.unusedSectionVars false
set_option linter.unusedVariables false
open Go AM
set_option maxRecDepth 100000
def NdRel :Nd→T→Prop
 | .zero,x=>False
 | .num n,x=>∃f1 f2,x= .agg [.int .i64 1, .int .i64 n, .str ⟨#[]⟩, .list 1 f1 [], .list 5 f2 []]
 | .ref s ix,x=>∃f1 f2,x= .agg [.int .i64 2, .int .i64 0, .str s, .list 1 f1 (strs ix), .list 5 f2 []]
 | .bin o a b,x=>∃f1 f2 xa xb,x= .agg [.int .i64 o, .int .i64 0, .str ⟨#[]⟩, .list 1 f1 [], .list 5 f2 [xa,xb]]∧NdRel a xa∧NdRel b xb
 | .neg a,x=>∃f1 f2 xa,x= .agg [.int .i64 6, .int .i64 0, .str ⟨#[]⟩, .list 1 f1 [], .list 5 f2 [xa]]∧NdRel a xa
 | .sum s a,x=>∃f1 f2 xa,x= .agg [.int .i64 7, .int .i64 0, .str s, .list 1 f1 [], .list 5 f2 [xa]]∧NdRel a xa
theorem isN_form{k:Nat}{x:T}(h:IsN k x) :∃op n s f1 ix f2 l,x= .agg [.int .i64 op, .int .i64 n, .str s, .list 1 f1 ix, .list 5 f2 l]:=by
 cases k with
 | zero=>exact h.elim
 | succ k=>obtain ⟨op,n,s,f1,ix,f2,l,e,_⟩:=h; exact ⟨op,n,s,f1,strs ix,f2,l,e⟩
theorem bFO9(b:Bool) :(false || b)=b:=by cases b <;>rfl
theorem bTO9(b:Bool) :(true || b)=true:=by cases b <;>rfl
theorem jAll{deep a:Int}{F:Bool}{G:List T}(hL:L43_18 deep 1 F G (G.length:Int) 0=some (.t (.int .i64 a),e0))(ok:Bool)(A B:Int)(C:ByteArray)(D:Bool)(E:List T)(H I:Int)(J:ByteArray)(K:Bool)(L:List T)(M:Bool)(N:List T) :
  J43_14 deep ok A B C D E F G H I J K L M N=some (.t (.int .i64 (bif ok &&(decide (I=0) &&(decide (J=⟨#[]⟩) && !decide (0<(L.length:Int)))) then a else -1)),e0):=by
 rw [J43_14_eq,RJ43_14]
 cases ok with
 | false=>rfl
 | true=>
  rw [bNT,cf,bTA]
  cases decide (I=0) with
  | false=>rfl
  | true=>
   rw [bNT,cf,bTA]
   cases decide (J=⟨#[]⟩) with
   | false=>rfl
   | true=>
    rw [bNT,cf,bTA]
    cases decide (0<(L.length:Int)) with
    | true=>rfl
    | false=>rw [cf,bNF,ct]; exact hL
theorem l43D(H:Int)(z:Bool)(l:List T)(c:T→Int)(hb:l.length≤maxLen)(hk:∀y∈l,(∃op n s f1 ix f2 l,y= .agg [.int .i64 op, .int .i64 n, .str s, .list 1 f1 ix, .list 5 f2 l])∧vr 43 0 [.t y, .t (.int .i64 (IntKind.i64.wrap (H - 1)))] e0=some (.t (.int .i64 (c y)),e0)) :
  ∀(m i:Nat) (s:Int),m+i=l.length→L43_18 H s z l (l.length:Int) (i:Int)=some (.t (.int .i64 (addC ((l.drop i).map c) s)),e0)
 | 0,i,s,h=>by
  rw [L43_18_eq,RL43_18,decide_eq_false (by omega),cf,List.drop_eq_nil_of_le (by omega)]
  rfl
 | m+1,i,s,h=>by
  have hi:i<l.length:=by omega
  have hm:=mx
  obtain ⟨⟨op,n,sa,f1,ix,f2,l2,e⟩,hv⟩:=hk _ (List.getElem_mem hi)
  have hg:∀{R:Type} (K:T→Option R),getT l i K=K l[i]:=fun K=>by unfold getT; rw [List.getElem?_eq_getElem hi]
  rw [L43_18_eq,RL43_18,decide_eq_true (by omega),ct,needC_true (decide_eq_true (by omega)),Int.toNat_natCast,hg,List.drop_eq_getElem_cons hi,List.map_cons,addC]
  generalize hc:c l[i]=ci at*
  rw [e] at hv ⊢
  rw [D_iisl1l5_at,hv,callK_some,asT_t,asI_int,endB_nil,nat64m (by omega),l43D H z l c hb hk m (i+1) _ (by omega)]
  cases decide (ci<0) <;>rfl
def okN(op n:Int)(s:ByteArray)(ix:List ByteArray)(len:Nat)(H:Int) :Bool:=
 decide (0<H) &&(decide (kidsN op=(len:Int)) &&(bif decide (op=1) then decide (0≤n) &&decide (n<1000000000000000000) else bif decide (op=2) then isName s &&indexed ix else bif decide (op=7) then isName s else true))
def bareN(op n:Int)(s:ByteArray)(ix:List ByteArray) :Bool:=
 decide ((bif decide (op=1) then 0 else n)=0) &&(decide ((bif decide (op=2) || decide (op=7) then ⟨#[]⟩ else s)=(⟨#[]⟩:ByteArray)) && !decide (0<(((bif decide (op=2) then [] else ix):List ByteArray).length:Int)))
theorem count_at(H:Int)(op n:Int)(s:ByteArray)(f1 f2:Bool)(ix:List ByteArray)(l:List T)(a:Int)(hL:L43_18 H 1 f2 l (l.length:Int) 0=some (.t (.int .i64 a),e0)) :
  vr 43 0 [.t (.agg [.int .i64 op, .int .i64 n, .str s, .list 1 f1 (strs ix), .list 5 f2 l]), .t (.int .i64 H)] e0=some (.t (.int .i64 (bif okN op n s ix l.length H &&bareN op n s ix then a else -1)),e0):=by
 have hl:(strs ix).length=ix.length:=List.length_map ..
 have hz:((([]:List ByteArray).length:Nat):Int)=(([]:List T).length:Int):=rfl
 unfold okN bareN
 rw [eq43,R43,kids93,callK_some,asT_t,asI_int,endB_nil]
 cases hH:decide (0<H) with
 | false=>
  rw [cf,bFA,bFA,cf]
  cases decide (op=1) with
  | true=>rw [ct]; exact jF ..
  | false=>
   rw [cf]
   cases decide (op=2) with
   | true=>rw [ct]; exact jF ..
   | false=>
    rw [cf]
    cases decide (op=7) with
    | true=>rw [ct]; exact jF ..
    | false=>rw [cf]; exact jF ..
 | true=>
  rw [ct,bTA]
  cases hk:decide (kidsN op=(l.length:Int)) with
  | false=>
   rw [bFA,bFA,cf]
   cases decide (op=1) with
   | true=>rw [ct,cf]; exact jF ..
   | false=>
    rw [cf]
    cases decide (op=2) with
    | true=>rw [ct,cf]; exact jF ..
    | false=>
     rw [cf]
     cases decide (op=7) with
     | true=>rw [ct,cf]; exact jF ..
     | false=>rw [cf]; exact jF ..
  | true=>
   rw [bTA]
   cases h1:decide (op=1) with
   | true=>
    have o1:op=1:=of_decide_eq_true h1
    subst o1
    rw [ct,ct,ct,show decide ((1:Int)=2)=false from rfl,show decide ((1:Int)=7)=false from rfl,bFO9,cf,cf]
    cases decide (0≤n) with
    | false=>rw [cf,bFA,bFA,cf]; exact jF ..
    | true=>rw [ct,bTA,jAll hL,hl,ct]
   | false=>
    rw [cf,cf,cf]
    cases h2:decide (op=2) with
    | true=>
     rw [ct,ct,named49,callK_some,asT_t,asB_bool,endB_nil,ct,bTO9,ct,ct]
     cases isName s with
     | false=>rw [cf,bFA,bFA,cf]; exact jF ..
     | true=>rw [ct,bTA,indexed52,callK_some,asT_t,asB_bool,endB_nil,jAll hL]; rfl
    | false=>
     rw [cf,cf,bFO9,cf]
     cases h7:decide (op=7) with
     | true=>rw [ct,ct,named49,callK_some,asT_t,asB_bool,endB_nil,jAll hL,hl]; rfl
     | false=>rw [cf,jAll hL,hl]; rfl
theorem len0{A:Type}{l:List A}(h:(l.length:Int)=0) :l=[]:=by
 cases l with
 | nil=>rfl
 | cons x r=>rw [List.length_cons] at h; omega
theorem len1{A:Type}{l:List A}(h:(l.length:Int)=1) :∃x,l=[x]:=by
 match l,h with
 | [x],_=>exact ⟨x,rfl⟩
 | [],h=>simp at h
 | _::_::_,h=>rw [List.length_cons,List.length_cons] at h; omega
theorem len2{A:Type}{l:List A}(h:(l.length:Int)=2) :∃x y,l=[x,y]:=by
 match l,h with
 | [x,y],_=>exact ⟨x,y,rfl⟩
 | [],h=>simp at h
 | [_],h=>simp at h
 | _::_::_::_,h=>rw [List.length_cons,List.length_cons,List.length_cons] at h; omega
theorem kids_cases{op:Int}{k:Nat}(h:kidsN op=(k:Int)) :(op=1∧k=0)∨(op=2∧k=0)∨(op=6∧k=1)∨(op=7∧k=1)∨(decide (kidsN op=2)=true∧k=2∧op ≠1∧op ≠2∧op ≠7):=by
 by_cases h1:op=1
 ·subst h1; have:kidsN 1=0:=rfl; left; exact ⟨rfl,by omega⟩
 ·by_cases h2:op=2
  ·subst h2; have:kidsN 2=0:=rfl; right; left; exact ⟨rfl,by omega⟩
  ·by_cases h6:op=6
   ·subst h6; have:kidsN 6=1:=rfl; right; right; left; exact ⟨rfl,by omega⟩
   ·by_cases h7:op=7
    ·subst h7; have:kidsN 7=1:=rfl; right; right; right; left; exact ⟨rfl,by omega⟩
    ·right; right; right; right
     by_cases hk:kidsN op=2
     ·exact ⟨decide_eq_true hk,by omega,h1,h2,h7⟩
     ·exfalso
      by_cases h3:op=3
      ·subst h3; exact hk rfl
      ·by_cases h4:op=4
       ·subst h4; exact hk rfl
       ·by_cases h5:op=5
        ·subst h5; exact hk rfl
        ·unfold kidsN at h
         rw [decide_eq_false h1,cf,decide_eq_false h2,cf,decide_eq_false h6,cf,decide_eq_false h7,cf,decide_eq_false h3,cf,decide_eq_false h4,cf,decide_eq_false h5,cf] at h
         omega
theorem cond_nn2{c:Bool}{x:Int}(h:0≤(bif c then x else -1)) :c=true∧0≤x:=by
 cases c with
 | true=>exact ⟨rfl,h⟩
 | false=>rw [cf] at h; exact absurd h (by decide)
theorem addC_one{c s:Int}(h:0≤addC [c] s) :0≤c:=by
 unfold addC at h
 cases hd:decide (c<0) with
 | true=>rw [hd,ct] at h; exact absurd h (by decide)
 | false=>have:=of_decide_eq_false hd; omega
theorem addC_two{c d s:Int}(h:0≤addC [c,d] s) :0≤c∧0≤d:=by
 unfold addC at h
 cases hd:decide (c<0) with
 | true=>rw [hd,ct] at h; exact absurd h (by decide)
 | false=>
  rw [hd,cf] at h
  exact ⟨by have:=of_decide_eq_false hd; omega,addC_one h⟩
theorem not_lt{b:Bool}(h:(!b)=true) :b=false:=by revert h; cases b <;>simp
theorem countD :∀(k:Nat) (x:T),IsN k x→∀H,∃c,vr 43 0 [.t x, .t (.int .i64 H)] e0=some (.t (.int .i64 c),e0)∧(0≤c→∃y,NdRel y x∧cnt y H=c)
 | 0,x,h,H=>h.elim
 | k+1,x,h,H=>by
  obtain ⟨op,n,s,f1,ix,f2,l,rfl,b1,b2,hk⟩:=h
  have each:∀y,∃c,y∈l→vr 43 0 [.t y, .t (.int .i64 (IntKind.i64.wrap (H - 1)))] e0=some (.t (.int .i64 c),e0)∧(0≤c→∃u,NdRel u y∧cnt u (IntKind.i64.wrap (H - 1))=c):=by
   intro y
   by_cases hy:y∈l
   ·obtain ⟨c,hc⟩:=countD k y (hk y hy) (IntKind.i64.wrap (H - 1))
    exact ⟨c,fun _=>hc⟩
   ·exact ⟨0,fun h=>absurd h hy⟩
  obtain ⟨c,hc⟩:=Classical.axiomOfChoice each
  have hL:=l43D H f2 l c b2 (fun y hy=>⟨isN_form (hk y hy),(hc y hy).1⟩) l.length 0 1 (by omega)
  rw [List.drop_zero] at hL
  refine ⟨_,count_at H op n s f1 f2 ix l _ hL,fun h0=> ?_⟩
  obtain ⟨hok,ha⟩:=cond_nn2 h0
  rw [hok,ct]
  rw [Bool.and_eq_true] at hok
  obtain ⟨hok,hbare⟩:=hok
  unfold okN at hok
  unfold bareN at hbare
  rw [Bool.and_eq_true,Bool.and_eq_true] at hok hbare
  obtain ⟨hH,hkn,hrest⟩:=hok
  obtain ⟨hI,hJ,hLn⟩:=hbare
  have hI:=of_decide_eq_true hI
  have hJ:=of_decide_eq_true hJ
  have hLn:=of_decide_eq_false (not_lt hLn)
  rcases kids_cases (of_decide_eq_true hkn) with ⟨rfl,h2⟩ | ⟨rfl,h2⟩ | ⟨rfl,h2⟩ | ⟨rfl,h2⟩ | ⟨hk2,h2,n1,n2,n7⟩
  ·obtain rfl:=len0 (l:=l) (by omega)
   have e1:ix=[]:=len0 (l:=ix) (by have:(0:Int)≤(ix.length:Int):=Int.natCast_nonneg _; have hLn:¬(0:Int)<(ix.length:Int):=hLn; omega)
   have e2:s=⟨#[]⟩:=hJ
   have hr9:(decide (0≤n) &&decide (n<1000000000000000000))=true:=hrest
   subst e1 e2
   exact ⟨.num n,⟨f1,f2,rfl⟩,by rw [cnt,hH,hr9]; rfl⟩
  ·obtain rfl:=len0 (l:=l) (by omega)
   have e1:n=0:=hI
   have hr9:(isName s &&indexed ix)=true:=hrest
   subst e1
   exact ⟨.ref s ix,⟨f1,f2,rfl⟩,by rw [cnt,hH,hr9]; rfl⟩
  ·obtain ⟨xa,rfl⟩:=len1 (l:=l) (by omega)
   have e0:n=0:=hI
   have e1:ix=[]:=len0 (l:=ix) (by have:(0:Int)≤(ix.length:Int):=Int.natCast_nonneg _; have hLn:¬(0:Int)<(ix.length:Int):=hLn; omega)
   have e2:s=⟨#[]⟩:=hJ
   subst e0 e1 e2
   obtain ⟨_,hca⟩:=hc xa (List.mem_cons_self ..)
   obtain ⟨a,hr,hcn⟩:=hca (addC_one ha)
   exact ⟨.neg a,⟨f1,f2,xa,rfl,hr⟩,by rw [cnt,hH,hcn]; rfl⟩
  ·obtain ⟨xa,rfl⟩:=len1 (l:=l) (by omega)
   have e0:n=0:=hI
   have e1:ix=[]:=len0 (l:=ix) (by have:(0:Int)≤(ix.length:Int):=Int.natCast_nonneg _; have hLn:¬(0:Int)<(ix.length:Int):=hLn; omega)
   have hr9:isName s=true:=hrest
   subst e0 e1
   obtain ⟨_,hca⟩:=hc xa (List.mem_cons_self ..)
   obtain ⟨a,hr,hcn⟩:=hca (addC_one ha)
   exact ⟨.sum s a,⟨f1,f2,xa,rfl,hr⟩,by rw [cnt,hH,hr9,hcn]; rfl⟩
  ·obtain ⟨xa,xb,rfl⟩:=len2 (l:=l) (by omega)
   rw [decide_eq_false n1,cf] at hI
   rw [decide_eq_false n2,decide_eq_false n7,bFO9,cf] at hJ
   rw [decide_eq_false n2,cf] at hLn
   have e1:ix=[]:=len0 (l:=ix) (by have:(0:Int)≤(ix.length:Int):=Int.natCast_nonneg _; omega)
   subst hI hJ e1
   obtain ⟨a0,b0⟩:=addC_two ha
   obtain ⟨a,hr,hcn⟩:=(hc xa (List.mem_cons_self ..)).2 a0
   obtain ⟨b,hr2,hcn2⟩:=(hc xb (List.mem_cons_of_mem _ (List.mem_cons_self ..))).2 b0
   exact ⟨.bin op a b,⟨f1,f2,xa,xb,rfl,hr,hr2⟩,by rw [cnt,hH,hk2,hcn,hcn2]; rfl⟩
theorem mayD{k:Nat}{x:T}(h:IsN k x) :∃b,vr 17 0 [.t x] e0=some (.t (.bool b),e0)∧(b=true→∃y,NdRel y x∧mayN y=true):=by
 obtain ⟨c,h1,h2⟩:=countD k x h 16
 obtain ⟨op,n,s,f1,ix,f2,l,rfl⟩:=isN_form h
 refine ⟨decide (0<c) &&decide (c≤120), ?_,fun hb=> ?_⟩
 ·rw [eq17,R17,h1,callK_some,asT_t,asI_int,endB_nil]
  cases decide (0<c) <;>rfl
 ·rw [Bool.and_eq_true] at hb
  have:=of_decide_eq_true hb.1
  obtain ⟨y,hr,hc⟩:=h2 (by omega)
  refine ⟨y,hr, ?_⟩
  unfold mayN
  rw [hc,hb.1,hb.2]; rfl
end Go.Proofs.Ytpfploolkmcalaa.VM
end
section
namespace Go.Proofs.Ytpfploolkmcalaa.VM
set_option linter.unusedSectionVars false
set_option linter.unusedVariables false
open Go AM
set_option maxRecDepth 100000
def StmRel(x:Stm)(y:T) :Prop:=∃f op n sa f1 jx f2 l,y= .agg [.str x.s, .list 1 f (strs x.ix), .int .i64 op, .int .i64 n, .str sa, .list 1 f1 jx, .list 5 f2 l]∧NdRel x.e (.agg [.int .i64 op, .int .i64 n, .str sa, .list 1 f1 jx, .list 5 f2 l])
def ChkS(y:T)(b:Bool) :Prop:=∃s f ix op n sa f1 jx f2 l bm,y= .agg [.str s, .list 1 f (strs ix), .int .i64 op, .int .i64 n, .str sa, .list 1 f1 jx, .list 5 f2 l]∧
 vr 17 0 [.t (.agg [.int .i64 op, .int .i64 n, .str sa, .list 1 f1 jx, .list 5 f2 l])] e0=some (.t (.bool bm),e0)∧b=(isName s &&(indexed ix &&bm))∧(b=true→∃x,StmRel x y∧stmOk x=true)
theorem chkS_of{y:T}(h:IsS y) :∃b,ChkS y b:=by
 obtain ⟨s,f,ix,op,n,sa,f1,jx,f2,l,k,rfl,hx,hn⟩:=h
 obtain ⟨bm,h1,h2⟩:=mayD hn
 refine ⟨_,s,f,ix,op,n,sa,f1,strs jx,f2,l,bm,rfl,h1,rfl,fun hb=> ?_⟩
 rw [Bool.and_eq_true,Bool.and_eq_true] at hb
 obtain ⟨e,hr,hm⟩:=h2 hb.2.2
 refine ⟨⟨s,ix,e⟩,⟨f,op,n,sa,f1,strs jx,f2,l,rfl,hr⟩, ?_⟩
 unfold stmOk
 dsimp only
 rw [hb.1,hb.2.1,hm]; rfl
theorem l24_8D(z:Bool)(TS:List T)(bf:T→Bool)(hb:TS.length≤maxLen)(hs:∀y∈TS,ChkS y (bf y)) :∀(m i:Nat) (ok:Bool),m+i=TS.length→L24_8 ok z TS (TS.length:Int) (i:Int)=some (.t (.int .i64 (bif ok &&(TS.drop i).all bf then 0 else 1)),e0)
 | 0,i,ok,h=>by
  rw [L24_8_eq,RL24_8,decide_eq_false (by omega),cf,List.drop_eq_nil_of_le (by omega)]
  cases ok <;>rfl
 | m+1,i,ok,h=>by
  have hi:i<TS.length:=by omega
  have hm:=mx
  have ih:=fun ok=>l24_8D z TS bf hb hs m (i+1) ok (by omega)
  have hg:∀{R:Type} (K:T→Option R),getT TS i K=K TS[i]:=fun K=>by unfold getT; rw [List.getElem?_eq_getElem hi]
  obtain ⟨s,f,ix,op,n,sa,f1,jx,f2,l,bm,hy,hv,hbf,_⟩:=hs _ (List.getElem_mem hi)
  have e:L24_8 ok z TS (TS.length:Int) (i:Int)=L24_8 (ok &&bf TS[i]) z TS (TS.length:Int) ((i+1:Nat):Int):=by
   rw [L24_8_eq,RL24_8,decide_eq_true (by omega),ct,needC_true (decide_eq_true (by omega)),Int.toNat_natCast,hg,nat64m (by omega),hbf,hy,D_sl1iisl1l5_at]
   cases ok with
   | false=>rfl
   | true=>
    rw [ct,bTA,named49,callK_some,asT_t,asB_bool,endB_nil]
    cases isName s with
    | false=>rfl
    | true=>
     rw [ct,bTA,indexed52,callK_some,asT_t,asB_bool,endB_nil]
     cases indexed ix with
     | false=>rfl
     | true=>rw [ct,bTA,hv,callK_some,asT_t,asB_bool,endB_nil]
  rw [e,ih,List.drop_eq_getElem_cons hi,List.all_cons,Bool.and_assoc]
theorem l24_3D(z z2 z3:Bool)(TD TD2 TS:List T)(D:List Dec)(bf:T→Bool)(hD:All2 DecRel D TD)(hb0:TD.length≤maxLen)(hb:TS.length≤maxLen)(hs:∀y∈TS,ChkS y (bf y)) :∀(m i:Nat) (ok:Bool),m+i=D.length→L24_3 ok z TD (TD.length:Int) (i:Int) z2 TD2 z3 TS=some (.t (.int .i64 (bif ok &&((D.drop i).all decOk &&TS.all bf) then 0 else 1)),e0)
 | 0,i,ok,h=>by
  have hlen:=hD.length
  rw [L24_3_eq,RL24_3,decide_eq_false (by omega),cf,List.drop_eq_nil_of_le (by omega)]
  exact l24_8D z3 TS bf hb hs TS.length 0 ok (by omega)
 | m+1,i,ok,h=>by
  have hlen:=hD.length
  have hi:i<D.length:=by omega
  have hm:=mx
  have ih:=fun ok=>l24_3D z z2 z3 TD TD2 TS D bf hD hb0 hb hs m (i+1) ok (by omega)
  obtain ⟨y,hy,f,rfl⟩:=hD.get (List.getElem?_eq_getElem hi)
  have hg:∀{R:Type} (K:T→Option R),getT TD i K=K (.agg [.str D[i].s, .list 1 f (ints D[i].sh), .str D[i].f, .int .i64 D[i].k]):=fun K=>by unfold getT; rw [hy]
  have e:L24_3 ok z TD (TD.length:Int) (i:Int) z2 TD2 z3 TS=L24_3 (ok &&decOk D[i]) z TD (TD.length:Int) ((i+1:Nat):Int) z2 TD2 z3 TS:=by
   rw [L24_3_eq,RL24_3,decide_eq_true (by omega),ct,needC_true (decide_eq_true (by omega)),Int.toNat_natCast,hg,nat64m (by omega)]
   unfold decOk
   rw [D_sl1si_at]
   cases ok with
   | false=>rfl
   | true=>
    have hl:(ints D[i].sh).length=D[i].sh.length:=List.length_map ..
    rw [ct,bTA,named49,callK_some,asT_t,asB_bool,endB_nil]
    cases isName D[i].s with
    | false=>rfl
    | true=>
     rw [ct,bTA,hl,show (4:Int)=((4:Nat):Int) from rfl,natle]
     cases hd4:decide (D[i].sh.length≤4) with
     | false=>rfl
     | true=>
      rw [ct,bTA,number50 _ _ (by have:=of_decide_eq_true hd4; omega),callK_some,asT_t,asB_bool,endB_nil]
      cases bigs D[i].sh with
      | true=>rfl
      | false=>
       rw [bNF,ct,bTA,number1,callK_some,asT_t,asB_bool,endB_nil]
       cases big D[i].k with
       | true=>rfl
       | false=>rw [bNF,ct,bTA,word18,callK_some,asT_t,asB_bool,endB_nil]
  rw [e,ih,List.drop_eq_getElem_cons hi,List.all_cons]
  cases ok <;>cases decOk D[i] <;>rfl
theorem stms_of{bf:T→Bool} :∀{TS:List T},(∀y∈TS,ChkS y (bf y))→TS.all bf=true→∃S,All2 StmRel S TS∧S.all stmOk=true
 | [],_,_=>⟨[], .nil,rfl⟩
 | y::TS,h,ha=>by
  rw [List.all_cons,Bool.and_eq_true] at ha
  obtain ⟨_,_,_,_,_,_,_,_,_,_,_,_,_,_,hx⟩:=h y (List.mem_cons_self ..)
  obtain ⟨x,h1,h2⟩:=hx ha.1
  obtain ⟨S,h3,h4⟩:=stms_of (fun y hy=>h y (List.mem_cons_of_mem _ hy)) ha.2
  exact ⟨x::S, .cons h1 h3,by rw [List.all_cons,h2,h4]; rfl⟩
theorem check24D(z z2:Bool){TD TS:List T}{D:List Dec}(hD:All2 DecRel D TD)(hb0:TD.length≤maxLen)(hb:TS.length≤maxLen)(hs:∀y∈TS,IsS y) :
  ∃c,vr 24 0 [.t (.agg [.list 4 z TD, .list 7 z2 TS])] e0=some (.t (.int .i64 c),e0)∧((c=0∧∃S,All2 StmRel S TS∧chkP D S=true)∨c=1):=by
 have each:∀y,∃b,y∈TS→ChkS y b:=fun y=>by
  by_cases hy:y∈TS
  ·obtain ⟨b,h⟩:=chkS_of (hs y hy); exact ⟨b,fun _=>h⟩
  ·exact ⟨false,fun h=>absurd h hy⟩
 obtain ⟨bf,hbf⟩:=Classical.axiomOfChoice each
 have hlen:=hD.length
 have h:=fun ok=>l24_3D z z z2 TD TD TS D bf hD hb0 hb hbf D.length 0 ok (by omega)
 refine ⟨bif decide (D.length≤32) &&(decide (TS.length≤32) &&(D.all decOk &&TS.all bf)) then 0 else 1, ?_, ?_⟩
 ·rw [eq24,R24,show (32:Int)=((32:Nat):Int) from rfl,natle,natle,←hlen]
  rw [←hlen] at h
  cases decide (D.length≤32) with
  | true=>rw [ct,bTA]; exact h _
  | false=>rw [cf,bFA]; exact h _
 ·cases hc:decide (D.length≤32) &&(decide (TS.length≤32) &&(D.all decOk &&TS.all bf)) with
  | false=>exact .inr rfl
  | true=>
   left
   rw [Bool.and_eq_true,Bool.and_eq_true,Bool.and_eq_true] at hc
   obtain ⟨h1,h2,h3,h4⟩:=hc
   obtain ⟨S,h5,h6⟩:=stms_of hbf h4
   refine ⟨rfl,S,h5, ?_⟩
   unfold chkP
   rw [h1,h5.length,h2,h3,h6]; rfl
/-! ### written -/
theorem ndRel_form{y:Nd}{x:T}(h:NdRel y x) :∃op n s f1 ix f2 l,x= .agg [.int .i64 op, .int .i64 n, .str s, .list 1 f1 ix, .list 5 f2 l]:=by
 cases y with
 | zero=>exact h.elim
 | num n=>obtain ⟨f1,f2,rfl⟩:=h; exact ⟨_,_,_,_,_,_,_,rfl⟩
 | ref s ix=>obtain ⟨f1,f2,rfl⟩:=h; exact ⟨_,_,_,_,_,_,_,rfl⟩
 | bin o a b=>obtain ⟨f1,f2,xa,xb,rfl,_⟩:=h; exact ⟨_,_,_,_,_,_,_,rfl⟩
 | neg a=>obtain ⟨f1,f2,xa,rfl,_⟩:=h; exact ⟨_,_,_,_,_,_,_,rfl⟩
 | sum s a=>obtain ⟨f1,f2,xa,rfl,_⟩:=h; exact ⟨_,_,_,_,_,_,_,rfl⟩
theorem node45R :∀(y:Nd) (H:Nat),wf H y=true→∀(x:T),NdRel y x→∀(z:Bool) (out:List T),out.length+(pNode y).length≤900000000→vr 45 0 [.ptr 0 0 0, .t x] (penI z out)=some (.tup [],penO (out++pNode y))
 | y,0,h,x,hr,z,out,ho=>by cases h
 | .zero,H+1,h,x,hr,z,out,ho=>by cases h
 | .num n,H+1,h,x,hr,z,out,ho=>by
  obtain ⟨f1,f2,rfl⟩:=hr
  rw [wf,Bool.and_eq_true] at h
  have h1:=of_decide_eq_true h.1
  have h2:=of_decide_eq_true h.2
  rw [eq45,R45,put_p,show decide ((1:Int)=1)=true from rfl,ct,pen_call (digits56 n (by omega) (by omega) z out (by omega))]
  exact fin_pen _ rfl
 | .ref s ix,H+1,h,x,hr,z,out,ho=>by
  obtain ⟨f1,f2,rfl⟩:=hr
  rw [wf,Bool.and_eq_true] at h
  have hi:=h.2
  unfold indexed at hi
  rw [Bool.and_eq_true] at hi
  have h4:=of_decide_eq_true hi.1
  have:=app1 out (wdT s)
  rw [pNode,List.length_cons] at ho
  rw [eq45,R45,put_p,show decide ((2:Int)=1)=false from rfl,cf,show decide ((2:Int)=2)=true from rfl,ct,pen_call (word54 s z out (by omega)),pen_call (list58 _ true ix _ (by omega) (by omega))]
  exact fin_pen _ (by rw [List.append_assoc]; rfl)
 | .neg a,H+1,h,x,hr,z,out,ho=>by
  obtain ⟨f1,f2,xa,rfl,ha⟩:=hr
  obtain ⟨op,n,sa,g1,jx,g2,l,e⟩:=ndRel_form ha
  have:=app1 out (sgT ⟨#[45]⟩)
  rw [pNode,List.length_cons] at ho
  rw [eq45,R45,put_p,show decide ((6:Int)=1)=false from rfl,cf,show decide ((6:Int)=2)=false from rfl,cf,show decide ((6:Int)=6)=true from rfl,ct,pen_call (sign57 ⟨#[45]⟩ z out (by omega)),get0,e,D_iisl1l5_at,←e,pen_call (node45R a H h xa ha true _ (by omega))]
  exact fin_pen _ (by rw [List.append_assoc]; rfl)
 | .sum s a,H+1,h,x,hr,z,out,ho=>by
  obtain ⟨f1,f2,xa,rfl,ha⟩:=hr
  obtain ⟨op,n,sa,g1,jx,g2,l,e⟩:=ndRel_form ha
  rw [wf,Bool.and_eq_true] at h
  rw [pNode,List.length_cons,List.length_cons,List.length_cons,List.length_cons,List.length_append,List.length_singleton] at ho
  have e1:=app1 out (wdT ⟨#[115,117,109]⟩)
  have e2:=app1 (out++[wdT ⟨#[115,117,109]⟩]) (sgT ⟨#[40]⟩)
  have e3:=app1 (out++[wdT ⟨#[115,117,109]⟩]++[sgT ⟨#[40]⟩]) (wdT s)
  have e4:=app1 (out++[wdT ⟨#[115,117,109]⟩]++[sgT ⟨#[40]⟩]++[wdT s]) (sgT ⟨#[44]⟩)
  have e5:(out++[wdT ⟨#[115,117,109]⟩]++[sgT ⟨#[40]⟩]++[wdT s]++[sgT ⟨#[44]⟩]++pNode a).length=out.length+4+(pNode a).length:=by rw [List.length_append]; omega
  rw [eq45,R45,put_p,show decide ((7:Int)=1)=false from rfl,cf,show decide ((7:Int)=2)=false from rfl,cf,show decide ((7:Int)=6)=false from rfl,cf,show decide ((7:Int)=7)=true from rfl,ct,pen_call (word54 ⟨#[115,117,109]⟩ z out (by omega)),pen_call (sign57 ⟨#[40]⟩ true _ (by omega)),pen_call (word54 s true _ (by omega)),pen_call (sign57 ⟨#[44]⟩ true _ (by omega)),get0,e,D_iisl1l5_at,←e,pen_call (node45R a H h.2 xa ha true _ (by omega)),pen_call (sign57 ⟨#[41]⟩ true _ (by omega))]
  exact fin_pen _ (by rw [pNode]; simp only [List.append_assoc,List.cons_append,List.nil_append])
 | .bin o a b,H+1,h,x,hr,z,out,ho=>by
  obtain ⟨f1,f2,xa,xb,rfl,ha,hb⟩:=hr
  obtain ⟨op,n,sa,g1,jx,g2,l,e⟩:=ndRel_form ha
  obtain ⟨op',n',sa',g1',jx',g2',l',e'⟩:=ndRel_form hb
  rw [wf,Bool.and_eq_true,Bool.and_eq_true] at h
  have hk:=of_decide_eq_true h.1
  have n1:o ≠1:=fun e=>by subst e; exact absurd hk (by decide)
  have n2:o ≠2:=fun e=>by subst e; exact absurd hk (by decide)
  have n6:o ≠6:=fun e=>by subst e; exact absurd hk (by decide)
  have n7:o ≠7:=fun e=>by subst e; exact absurd hk (by decide)
  rw [pNode,List.length_cons,List.length_append,List.length_cons,List.length_append,List.length_singleton] at ho
  have e1:=app1 out (sgT ⟨#[40]⟩)
  have e2:(out++[sgT ⟨#[40]⟩]++pNode a).length=out.length+1+(pNode a).length:=by rw [List.length_append]; omega
  have e3:=app1 (out++[sgT ⟨#[40]⟩]++pNode a) (sgT (sgn o))
  have e4:(out++[sgT ⟨#[40]⟩]++pNode a++[sgT (sgn o)]++pNode b).length=out.length+2+(pNode a).length+(pNode b).length:=by rw [List.length_append]; omega
  have ra:=node45R a H h.2.1 xa ha true (out++[sgT ⟨#[40]⟩]) (by omega)
  have rb:=node45R b H h.2.2 xb hb true (out++[sgT ⟨#[40]⟩]++pNode a++[sgT (sgn o)]) (by omega)
  rw [e] at ra
  rw [e'] at rb
  rw [eq45,R45,put_p,decide_eq_false n1,cf,decide_eq_false n2,cf,decide_eq_false n6,cf,decide_eq_false n7,cf,pen_call (sign57 ⟨#[40]⟩ z out (by omega)),get0,e,D_iisl1l5_at,pen_call ra,lkP,pen_call (sign57 (sgn o) true _ (by omega)),get1,e',D_iisl1l5_at,pen_call rb,pen_call (sign57 ⟨#[41]⟩ true _ (by omega))]
  exact fin_pen _ (by rw [pNode]; simp only [List.append_assoc,List.cons_append,List.nil_append])
end Go.Proofs.Ytpfploolkmcalaa.VM
end
section
namespace Go.Proofs.Ytpfploolkmcalaa.VM
set_option linter.unusedSectionVars false
set_option linter.unusedVariables false
open Go AM
set_option maxRecDepth 100000
theorem l25_6R(z z2 z3 z4:Bool)(D:List Dec)(TD D2 S2:List T)(hr:All2 DecRel D TD)(hb:D.length≤32)(hD:∀d∈D,decOk d=true) :∀(m i:Nat) (zo:Bool) (out:List T),m+i=D.length→out.length≤2000000*i→
  ∃zo',L25_6 z TD (TD.length:Int) (i:Int) z2 D2 z3 S2 zo out=L25_18 z3 S2 (S2.length:Int) 0 zo' (penAll ((D.drop i).map pDec) out)∧(penAll ((D.drop i).map pDec) out).length≤2000000*D.length
 | 0,i,zo,out,h,ho=>by
  have hlen:=hr.length
  refine ⟨zo, ?_, ?_⟩
  ·rw [L25_6_eq,RL25_6,decide_eq_false (by omega),cf,List.drop_eq_nil_of_le (by omega)]
   rfl
  ·rw [List.drop_eq_nil_of_le (by omega)]
   show out.length≤_
   have:i=D.length:=by omega
   rw [←this]; exact ho
 | m+1,i,zo,out,h,ho=>by
  have hlen0:=hr.length
  have hi:i<D.length:=by omega
  obtain ⟨y,hy,fl,rfl⟩:=hr.get (List.getElem?_eq_getElem hi)
  have hg:∀{R:Type} (K:T→Option R),getT TD i K=K (.agg [.str D[i].s, .list 1 fl (ints D[i].sh), .str D[i].f, .int .i64 D[i].k]):=fun K=>by unfold getT; rw [hy]
  obtain ⟨p1,p2,p3,p4,p5⟩:=dec_parts (hD _ (List.getElem_mem hi))
  have hn:=len_next out
  have a1:=app1 (nextL out) (wdT tens)
  have a2:=app1 (nextL out++[wdT tens]) (wdT D[i].s)
  have a3:=len_pl (nextL out++[wdT tens]++[wdT D[i].s]) (D[i].sh.map dgT)
  rw [List.length_map] at a3
  have a4:=app1 (nextL out++[wdT tens]++[wdT D[i].s]++pList (D[i].sh.map dgT)) (sgT ⟨#[58]⟩)
  have a5:=app1 (nextL out++[wdT tens]++[wdT D[i].s]++pList (D[i].sh.map dgT)++[sgT ⟨#[58]⟩]) (wdT D[i].f)
  have a6:=app1 (nextL out++[wdT tens]++[wdT D[i].s]++pList (D[i].sh.map dgT)++[sgT ⟨#[58]⟩]++[wdT D[i].f]) (dgT D[i].k)
  have hp:nextL out++pDec D[i]=bif decide (0<D[i].k) then nextL out++[wdT tens]++[wdT D[i].s]++pList (D[i].sh.map dgT)++[sgT ⟨#[58]⟩]++[wdT D[i].f]++[dgT D[i].k] else nextL out++[wdT tens]++[wdT D[i].s]++pList (D[i].sh.map dgT)++[sgT ⟨#[58]⟩]++[wdT D[i].f]:=by
   unfold pDec
   cases decide (0<D[i].k) <;>simp only [cond_true,cond_false,List.append_assoc,List.cons_append,List.nil_append]
  have hlen:(nextL out++pDec D[i]).length≤2000000*(i+1):=by
   rw [hp]
   cases decide (0<D[i].k) with
   | true=>rw [ct]; omega
   | false=>rw [cf]; omega
  obtain ⟨zo',e,el⟩:=l25_6R z z2 z3 z4 D TD D2 S2 hr hb hD m (i+1) true (nextL out++pDec D[i]) (by omega) hlen
  refine ⟨zo', ?_,by rw [List.drop_eq_getElem_cons hi]; exact el⟩
  have body:∀z',(callK (vr 54 0 [.ptr 0 0 0, .t (.str tens)] (penI z' (nextL out))) fun i_1 k=>asTup i_1 fun j=>endV j <| consB 0 k fun i_1 j=>asVar i_1 fun k=>consV k fun i_1 l=>isBuf 500 i_1 <| endV l <| consB 500 j fun i_1 k=>asArr 3 i_1 fun j l=>endB k <| callK (vr 54 0 [.ptr 0 0 0, .t (.str D[i].s)] (penI j l)) fun i_1 k=>asTup i_1 fun j=>endV j <| consB 0 k fun i_1 j=>asVar i_1 fun k=>consV k fun i_1 l=>isBuf 500 i_1 <| endV l <| consB 500 j fun i_1 k=>
    asArr 3 i_1 fun j l=>endB k <| callK (vr 55 0 [.ptr 0 0 0, .t (.list 1 fl (ints D[i].sh)), .fn 56 [.ptr 0 0 0] []] (penI j l)) fun i_1 k=>asTup i_1 fun j=>endV j <| consB 0 k fun i_1 j=>asVar i_1 fun k=>consV k fun i_1 l=>isBuf 500 i_1 <| endV l <| consB 500 j fun i_1 k=>asArr 3 i_1 fun j l=>endB k <| callK (vr 57 0 [.ptr 0 0 0, .t (.str ⟨#[58]⟩)] (penI j l)) fun i_1 k=>asTup i_1 fun j=>endV j <| consB 0 k fun i_1 j=>asVar i_1 fun k=>consV k fun i_1 l=>isBuf 500 i_1 <| endV l <| consB 500 j fun i_1 k=>asArr 3 i_1 fun j l=>endB k <| callK (vr 54 0 [.ptr 0 0 0, .t (.str D[i].f)] (penI j l)) fun i_1 k=>asTup i_1 fun j=>endV j <|
    consB 0 k fun i_1 j=>asVar i_1 fun k=>consV k fun i_1 l=>isBuf 500 i_1 <| endV l <| consB 500 j fun i_1 k=>asArr 3 i_1 fun j l=>endB k <|
    (bif (decide (0<D[i].k)) then
     callK (vr 56 0 [.ptr 0 0 0, .t (.int .i64 D[i].k)] (penI j l)) fun i_1 k=>asTup i_1 fun m=>endV m <| consB 0 k fun i_1 m=>asVar i_1 fun k=>consV k fun i_1 n=>isBuf 500 i_1 <| endV n <| consB 500 m fun i_1 k=>asArr 3 i_1 fun m n=>endB k <| L25_6 z TD (TD.length:Int) ((i+1:Nat):Int) z2 D2 z3 S2 m n
    else
     L25_6 z TD (TD.length:Int) ((i+1:Nat):Int) z2 D2 z3 S2 j l))=L25_6 z TD (TD.length:Int) ((i+1:Nat):Int) z2 D2 z3 S2 true (nextL out++pDec D[i]):=fun z'=>by
   rw [pen_call (word54 tens z' _ (by omega)),pen_call (word54 D[i].s true _ (by omega)),pen_call (list55 _ true D[i].sh _ (by omega) (fun n hn=>by have:=p3 n hn; omega) (by omega)),pen_call (sign57 ⟨#[58]⟩ true _ (by omega)),pen_call (word54 D[i].f true _ (by omega)),hp]
   cases hk:decide (0<D[i].k) with
   | true=>rw [ct,ct,pen_call (digits56 D[i].k (by omega) (by omega) true _ (by omega))]
   | false=>rw [cf,cf]
  rw [L25_6_eq,RL25_6,decide_eq_true (by omega),ct,needC_true (decide_eq_true (by omega)),Int.toNat_natCast,hg,D_sl1si_at,nat64 (by omega),List.drop_eq_getElem_cons hi]
  refine (after_line (by omega) _ _ (fun z'=>rfl)).trans ?_
  exact (body _).trans e
theorem l25_18R(z:Bool)(S:List Stm)(TS:List T)(hr:All2 StmRel S TS)(hb:S.length≤32)(hS:∀x∈S,stmOk x=true) :∀(m i:Nat) (zo:Bool) (out:List T),m+i=S.length→out.length≤2000000*(32+i)→
  ∃zo',L25_18 z TS (TS.length:Int) (i:Int) zo out=(callK (vr 46 0 [.t (.list 3 zo' (penAll ((S.drop i).map pStm) out))] e0) fun a b=>asTup a fun c=>consV c fun a d=>asT a fun c=>asS c fun a=>consV d fun c f=>asT c fun d=>asI .i64 d fun c=>endV f <| endB b <| some ((.tup [.t (.str a), .t (.int .i64 c)]),e0))∧(penAll ((S.drop i).map pStm) out).length≤2000000*64
 | 0,i,zo,out,h,ho=>by
  have hlen:=hr.length
  refine ⟨zo, ?_, ?_⟩
  ·rw [L25_18_eq,RL25_18,decide_eq_false (by omega),cf,List.drop_eq_nil_of_le (by omega)]
   rfl
  ·rw [List.drop_eq_nil_of_le (by omega)]
   show out.length≤_
   omega
 | m+1,i,zo,out,h,ho=>by
  have hlen0:=hr.length
  have hi:i<S.length:=by omega
  obtain ⟨y,hy,fl,op,nn,sa,g1,jx,g2,kl,rfl,hnr⟩:=hr.get (List.getElem?_eq_getElem hi)
  obtain ⟨p1,p2,p3,p4⟩:=stm_parts (hS _ (List.getElem_mem hi))
  have hpn:=pNode_len 16 _ p4
  have hn:=len_next out
  have a1:=app1 (nextL out) (wdT S[i].s)
  have a2:=len_pl (nextL out++[wdT S[i].s]) (S[i].ix.map wdT)
  rw [List.length_map] at a2
  have a3:=app1 (nextL out++[wdT S[i].s]++pList (S[i].ix.map wdT)) (sgT ⟨#[61]⟩)
  have a4:(nextL out++[wdT S[i].s]++pList (S[i].ix.map wdT)++[sgT ⟨#[61]⟩]++pNode S[i].e).length=(nextL out++[wdT S[i].s]++pList (S[i].ix.map wdT)++[sgT ⟨#[61]⟩]).length+(pNode S[i].e).length:=List.length_append
  have hp:nextL out++pStm S[i]=nextL out++[wdT S[i].s]++pList (S[i].ix.map wdT)++[sgT ⟨#[61]⟩]++pNode S[i].e:=by
   unfold pStm; simp only [List.append_assoc,List.cons_append,List.nil_append]
  have h2:16*2^16=1048576:=by decide
  have hlen:(nextL out++pStm S[i]).length≤2000000*(32+(i+1)):=by rw [hp]; omega
  obtain ⟨zo',e,el⟩:=l25_18R z S TS hr hb hS m (i+1) true (nextL out++pStm S[i]) (by omega) hlen
  refine ⟨zo', ?_,by rw [List.drop_eq_getElem_cons hi]; exact el⟩
  have hg:∀{R:Type} (K:T→Option R),getT TS i K=K (.agg [.str S[i].s, .list 1 fl (strs S[i].ix), .int .i64 op, .int .i64 nn, .str sa, .list 1 g1 jx, .list 5 g2 kl]):=fun K=>by unfold getT; rw [hy]
  rw [L25_18_eq,RL25_18,decide_eq_true (by omega),ct,needC_true (decide_eq_true (by omega)),Int.toNat_natCast,hg,D_sl1iisl1l5_at,nat64 (by omega),List.drop_eq_getElem_cons hi]
  refine (after_line (by omega) _ _ (fun z'=>rfl)).trans ?_
  rw [pen_call (word54 S[i].s _ _ (by omega)),pen_call (list58 _ true S[i].ix _ (by omega) (by omega)),pen_call (sign57 ⟨#[61]⟩ true _ (by omega)),pen_call (node45R S[i].e 16 p4 _ hnr true _ (by omega)),←hp]
  exact e
abbrev AggN(x:T) :Prop:=∃op n s f1 ix f2 l,x= .agg [.int .i64 op, .int .i64 n, .str s, .list 1 f1 ix, .list 5 f2 l]
theorem eq_48R(z z2:Bool){A B:List T}(hb:A.length≤100000)(h:All2 (fun x y=>AggN x∧AggN y∧vr 23 0 [.t x, .t y] e0=some (.t (.bool true),e0)) A B) :∀(m i:Nat),m+i=A.length→L48_4 z2 B z A (A.length:Int) (i:Int)=some (.t (.bool true),e0)
 | 0,i,hm=>by
  rw [L48_4_eq,RL48_4,decide_eq_false (by omega),cf]
 | m+1,i,hm=>by
  have hi:i<A.length:=by omega
  have ih:=eq_48R z z2 hb h m (i+1) (by omega)
  have ha:=List.getElem?_eq_getElem hi
  obtain ⟨y,hy,⟨op,n,s,f1,ix,f2,l,ex⟩,⟨op',n',s',f1',ix',f2',l',ey⟩,hv⟩:=h.get ha
  rw [ex] at ha hv
  rw [ey] at hy hv
  rw [L48_4_eq,RL48_4,decide_eq_true (by omega),ct,needC_true (decide_eq_true (by omega)),Int.toNat_natCast,getT_at ha,asA_agg,consT_cons,asI_int,consT_cons,asI_int,consT_cons,asS_str,consT_cons,asL_list,consT_cons,asL_list,endT_nil,needC_true (decide_eq_true (by omega)),getT_at hy,asA_agg,consT_cons,asI_int,consT_cons,asI_int,consT_cons,asS_str,consT_cons,asL_list,consT_cons,asL_list,endT_nil,hv,callK_some,asT_t,asB_bool,endB_nil,bNT,cf,nat64 (by omega)]
  exact ih
theorem same48R(z z2:Bool)(A B:List T)(hb:A.length≤100000)(h:All2 (fun x y=>AggN x∧AggN y∧vr 23 0 [.t x, .t y] e0=some (.t (.bool true),e0)) A B) :vr 48 0 [.t (.list 5 z A), .t (.list 5 z2 B), .fn 23 [] []] e0=some (.t (.bool true),e0):=by
 have hl:=h.length
 rw [eq48,R48,decide_eq_true (p:=(A.length:Int)=(B.length:Int)) (by omega),bNT,cf]
 exact eq_48R z z2 hb h A.length 0 (by omega)
theorem same_go{op n:Int}{s:ByteArray}{ix:List ByteArray}{f1 f2 g1 g2:Bool}{A B:List T}(hb:ix.length≤100000)(hk:vr 48 0 [.t (.list 5 f2 A), .t (.list 5 g2 B), .fn 23 [] []] e0=some (.t (.bool true),e0)) :
  vr 23 0 [.t (.agg [.int .i64 op, .int .i64 n, .str s, .list 1 f1 (strs ix), .list 5 f2 A]), .t (.agg [.int .i64 op, .int .i64 n, .str s, .list 1 g1 (strs ix), .list 5 g2 B])] e0=some (.t (.bool true),e0):=by
 rw [eq23,R23,decide_eq_true rfl,ct,decide_eq_true rfl,ct,decide_eq_true rfl,ct,equal47 _ _ _ hb,callK_some,asT_t,asB_bool,endB_nil,ct,hk,callK_some,asT_t,asB_bool,endB_nil]
theorem text25R{D:List Dec}{S:List Stm}{TD TS:List T}(z z0:Bool)(hrD:All2 DecRel D TD)(hrS:All2 StmRel S TS)(h:chkP D S=true)(hc:vr 24 0 [.t (.agg [.list 4 z TD, .list 7 z0 TS])] e0=some (.t (.int .i64 0),e0)) :
  vr 25 0 [.t (.agg [.list 4 z TD, .list 7 z0 TS])] e0=some (.tup [.t (.str ⟨(textE D S).1.toArray⟩), .t (.int .i64 (textE D S).2)],e0):=by
 obtain ⟨h1,h2,h3,h4⟩:=chk_parts h
 have hw:=wr_prog h
 have hl:=hrD.length
 have hl2:=hrS.length
 obtain ⟨z1,e1,n1⟩:=l25_6R z z z0 z0 D TD TD TS hrD h1 h3 D.length 0 false [] (by omega) (by simp)
 rw [List.drop_zero] at e1 n1
 obtain ⟨z2,e2,n2⟩:=l25_18R z0 S TS hrS h2 h4 S.length 0 z1 (penAll (D.map pDec) []) (by omega) (by omega)
 rw [List.drop_zero,←penAll_app] at e2 n2
 have ht:∀t∈toksP D S,IsTok t:=fun t hm=>(hw.2 t hm).1
 have hj:=wr_wt hw.2
 have hn:(toksP D S).length≤2000000*64:=n2
 rw [eq25,R25,hc,callK_some,asT_t,asI_int,endB_nil,show decide ((0:Int)=0)=true from rfl,bNT,cf]
 refine e1.trans ?_
 refine e2.trans ?_
 have e3:=join23 z2 (toksP D S) ht (joinOk_of (by rw [List.length_map]; omega) (by omega))
 unfold toksP at e3
 rw [e3,callK_some,asTup_tup,consV_cons,asT_t,asS_str,consV_cons,asT_t,asI_int,endV_nil,endB_nil]
 rfl
/-! ### the same -/
theorem same_pair :∀(y:Nd) (H:Nat),wf H y=true→∀(x x2:T),NdRel y x→NdRel y x2→vr 23 0 [.t x, .t x2] e0=some (.t (.bool true),e0)
 | y,0,h,x,x2,hr,hr2=>by cases h
 | .zero,H+1,h,x,x2,hr,hr2=>by cases h
 | .num n,H+1,h,x,x2,hr,hr2=>by
  obtain ⟨f1,f2,rfl⟩:=hr
  obtain ⟨g1,g2,rfl⟩:=hr2
  exact same_go (ix:=[]) (by simp) (same48R f2 g2 [] [] (by simp) .nil)
 | .ref s ix,H+1,h,x,x2,hr,hr2=>by
  obtain ⟨f1,f2,rfl⟩:=hr
  obtain ⟨g1,g2,rfl⟩:=hr2
  rw [wf,Bool.and_eq_true] at h
  have hi:=h.2
  unfold indexed at hi
  rw [Bool.and_eq_true] at hi
  have:=of_decide_eq_true hi.1
  exact same_go (show ix.length≤_ by omega) (same48R f2 g2 [] [] (by simp) .nil)
 | .neg a,H+1,h,x,x2,hr,hr2=>by
  obtain ⟨f1,f2,xa,rfl,ha⟩:=hr
  obtain ⟨g1,g2,ya,rfl,ha2⟩:=hr2
  exact same_go (ix:=[]) (by simp) (same48R f2 g2 [xa] [ya] (by simp) (.cons ⟨ndRel_form ha,ndRel_form ha2,same_pair a H h xa ya ha ha2⟩ .nil))
 | .sum s a,H+1,h,x,x2,hr,hr2=>by
  obtain ⟨f1,f2,xa,rfl,ha⟩:=hr
  obtain ⟨g1,g2,ya,rfl,ha2⟩:=hr2
  rw [wf,Bool.and_eq_true] at h
  exact same_go (ix:=[]) (by simp) (same48R f2 g2 [xa] [ya] (by simp) (.cons ⟨ndRel_form ha,ndRel_form ha2,same_pair a H h.2 xa ya ha ha2⟩ .nil))
 | .bin o a b,H+1,h,x,x2,hr,hr2=>by
  obtain ⟨f1,f2,xa,xb,rfl,ha,hb⟩:=hr
  obtain ⟨g1,g2,ya,yb,rfl,ha2,hb2⟩:=hr2
  rw [wf,Bool.and_eq_true,Bool.and_eq_true] at h
  exact same_go (ix:=[]) (by simp) (same48R f2 g2 [xa,xb] [ya,yb] (by simp) (.cons ⟨ndRel_form ha,ndRel_form ha2,same_pair a H h.2.1 xa ya ha ha2⟩ (.cons ⟨ndRel_form hb,ndRel_form hb2,same_pair b H h.2.2 xb yb hb hb2⟩ .nil)))
theorem eq_59R(z z2:Bool){l:List Dec}{A B:List T}(hA:All2 DecRel l A)(hB:All2 DecRel l B)(hb:l.length≤100000)(hd:∀d∈l,d.sh.length≤100000) :∀(m i:Nat),m+i=l.length→L59_4 z2 B z A (A.length:Int) (i:Int)=some (.t (.bool true),e0)
 | 0,i,h=>by
  have:=hA.length
  rw [L59_4_eq,RL59_4,decide_eq_false (by omega),cf]
 | m+1,i,h=>by
  have:=hA.length
  have hi:i<l.length:=by omega
  have ih:=eq_59R z z2 hA hB hb hd m (i+1) (by omega)
  obtain ⟨a,ha,f,rfl⟩:=hA.get (List.getElem?_eq_getElem hi)
  obtain ⟨b,hb',g,rfl⟩:=hB.get (List.getElem?_eq_getElem hi)
  rw [L59_4_eq,RL59_4,decide_eq_true (by omega),ct,needC_true (decide_eq_true (by omega)),Int.toNat_natCast,getT_at ha,asA_agg,consT_cons,asS_str,consT_cons,asL_list,consT_cons,asS_str,consT_cons,asI_int,endT_nil,needC_true (decide_eq_true (by omega)),getT_at hb',asA_agg,consT_cons,asS_str,consT_cons,asL_list,consT_cons,asS_str,consT_cons,asI_int,endT_nil,eq60,R60,decide_eq_true rfl,ct,decide_eq_true rfl,ct,decide_eq_true rfl,ct,equal61 _ _ _ (hd _ (List.getElem_mem hi)),callK_some,asT_t,asB_bool,endB_nil,callK_some,asT_t,asB_bool,endB_nil,bNT,cf,nat64 (by omega)]
  exact ih
theorem eq_62R(z z2:Bool){l:List Stm}{A B:List T}(hA:All2 StmRel l A)(hB:All2 StmRel l B)(hb:l.length≤100000)(hd:∀d∈l,d.ix.length≤100000∧wf 16 d.e=true) :∀(m i:Nat),m+i=l.length→L62_4 z2 B z A (A.length:Int) (i:Int)=some (.t (.bool true),e0)
 | 0,i,h=>by
  have:=hA.length
  rw [L62_4_eq,RL62_4,decide_eq_false (by omega),cf]
 | m+1,i,h=>by
  have:=hA.length
  have hi:i<l.length:=by omega
  have ih:=eq_62R z z2 hA hB hb hd m (i+1) (by omega)
  obtain ⟨h1,h2⟩:=hd _ (List.getElem_mem hi)
  obtain ⟨a,ha,f,op,n,sa,f1,jx,f2,kl,rfl,hr1⟩:=hA.get (List.getElem?_eq_getElem hi)
  obtain ⟨b,hb',g,op',n',sa',g1,jx',g2,kl',rfl,hr2⟩:=hB.get (List.getElem?_eq_getElem hi)
  have hs:=same_pair _ 16 h2 _ _ hr1 hr2
  rw [L62_4_eq,RL62_4,decide_eq_true (by omega),ct,needC_true (decide_eq_true (by omega)),Int.toNat_natCast,getT_at ha,asA_agg,consT_cons,asS_str,consT_cons,asL_list,consT_cons,asI_int,consT_cons,asI_int,consT_cons,asS_str,consT_cons,asL_list,consT_cons,asL_list,endT_nil,needC_true (decide_eq_true (by omega)),getT_at hb',asA_agg,consT_cons,asS_str,consT_cons,asL_list,consT_cons,asI_int,consT_cons,asI_int,consT_cons,asS_str,consT_cons,asL_list,consT_cons,asL_list,endT_nil,eq63,R63,decide_eq_true rfl,ct,equal47 _ _ _ h1,callK_some,asT_t,asB_bool,endB_nil,ct,hs,callK_some,asT_t,asB_bool,endB_nil,callK_some,asT_t,asB_bool,endB_nil,bNT,cf,nat64 (by omega)]
  exact ih
theorem equal26R{D:List Dec}{S:List Stm}{A B A2 B2:List T}(z z2 z3 z4:Bool)(hA:All2 DecRel D A)(hA2:All2 DecRel D A2)(hB:All2 StmRel S B)(hB2:All2 StmRel S B2)(h:chkP D S=true) :
  vr 26 0 [.t (.agg [.list 4 z A, .list 7 z2 B]), .t (.agg [.list 4 z3 A2, .list 7 z4 B2])] e0=some (.t (.bool true),e0):=by
 obtain ⟨h1,h2,h3,h4⟩:=chk_parts h
 have l1:=hA.length
 have l2:=hA2.length
 have l3:=hB.length
 have l4:=hB2.length
 have e1:=eq_59R z z3 hA hA2 (by omega) (fun d hd=>by have:=(dec_parts (h3 d hd)).2.1; omega) D.length 0 (by omega)
 have e2:=eq_62R z2 z4 hB hB2 (by omega) (fun x hx=>by obtain ⟨_,a,_,b⟩:=stm_parts (h4 x hx); exact ⟨by omega,b⟩) S.length 0 (by omega)
 rw [eq26,R26,eq59,R59,decide_eq_true (p:=(A.length:Int)=(A2.length:Int)) (by omega),bNT,cf,show (0:Int)=((0:Nat):Int) from rfl,e1,callK_some,asT_t,asB_bool,endB_nil,ct,eq62,R62,decide_eq_true (p:=(B.length:Int)=(B2.length:Int)) (by omega),bNT,cf,show (0:Int)=((0:Nat):Int) from rfl,e2,callK_some,asT_t,asB_bool,endB_nil]
theorem ndRel_self :∀(y:Nd) (H:Nat),wf H y=true→NdRel y (ndT y)
 | y,0,h=>by cases h
 | .zero,H+1,h=>by cases h
 | .num n,H+1,h=>⟨_,_,rfl⟩
 | .ref s ix,H+1,h=>⟨_,_,rfl⟩
 | .neg a,H+1,h=>⟨_,_,_,rfl,ndRel_self a H h⟩
 | .sum s a,H+1,h=>by
  rw [wf,Bool.and_eq_true] at h
  exact ⟨_,_,_,rfl,ndRel_self a H h.2⟩
 | .bin o a b,H+1,h=>by
  rw [wf,Bool.and_eq_true,Bool.and_eq_true] at h
  exact ⟨_,_,_,_,rfl,ndRel_self a H h.2.1,ndRel_self b H h.2.2⟩
theorem decs_self :∀D:List Dec,All2 DecRel D (D.map deT)
 | []=> .nil
 | d::D=> .cons ⟨_,rfl⟩ (decs_self D)
theorem stms_self :∀S:List Stm,(∀x∈S,wf 16 x.e=true)→All2 StmRel S (S.map smT)
 | [],_=> .nil
 | x::S,h=> .cons ⟨_,_,_,_,_,_,_,_,rfl,by rw [←ndT_eq]; exact ndRel_self x.e 16 (h x (List.mem_cons_self ..))⟩ (stms_self S fun y hy=>h y (List.mem_cons_of_mem _ hy))
end Go.Proofs.Ytpfploolkmcalaa.VM
end
section
namespace Go.Proofs.Ytpfploolkmcalaa.VM
set_option linter.unusedSectionVars false
set_option linter.unusedVariables false
open Go AM
set_option maxRecDepth 100000
def nds :Nd→Nat
 | .bin _ a b=>nds a+nds b+1
 | .neg a=>nds a+1
 | .sum _ a=>nds a+1
 | _=>1
theorem cnt_nds :∀(y:Nd) (H:Nat),H≤40→0≤cnt y (H:Int)→cnt y (H:Int)=(nds y:Int)∧nds y+1≤2^H
 | .zero,H,hH,h=>absurd h (by rw [cnt]; decide)
 | .num n,0,hH,h=>absurd (cond_nn h).1 (by simp)
 | .ref s ix,0,hH,h=>absurd (cond_nn h).1 (by simp)
 | .bin o a b,0,hH,h=>absurd (cond_nn h).1 (by simp)
 | .neg a,0,hH,h=>absurd (cond_nn h).1 (by simp)
 | .sum s a,0,hH,h=>absurd (cond_nn h).1 (by simp)
 | .num n,H+1,hH,h=>by
  have hp:2^(H+1)=2*2^H:=by rw [Nat.pow_succ]; omega
  have h1:1≤2^H:=Nat.one_le_two_pow
  have h:=(cond_nn h).1
  refine ⟨by rw [cnt,h]; rfl, ?_⟩
  unfold nds; omega
 | .ref s ix,H+1,hH,h=>by
  have hp:2^(H+1)=2*2^H:=by rw [Nat.pow_succ]; omega
  have h1:1≤2^H:=Nat.one_le_two_pow
  have h:=(cond_nn h).1
  refine ⟨by rw [cnt,h]; rfl, ?_⟩
  unfold nds; omega
 | .bin o a b,H+1,hH,h=>by
  have hp:2^(H+1)=2*2^H:=by rw [Nat.pow_succ]; omega
  have h40:2^H≤2^40:=Nat.pow_le_pow_right (by omega) (by omega)
  have hv:(2:Nat)^40=1099511627776:=by decide
  obtain ⟨h1,h2⟩:=cond_nn h
  obtain ⟨h3,h4⟩:=addC_2 h2
  rw [pred64 (by omega)] at h3 h4
  obtain ⟨e1,b1⟩:=cnt_nds a H (by omega) h3
  obtain ⟨e2,b2⟩:=cnt_nds b H (by omega) h4
  have en:nds (.bin o a b)=nds a+nds b+1:=rfl
  refine ⟨?_,by omega⟩
  rw [cnt,h1,ct,pred64 (by omega),e1,e2,addC,decide_eq_false (by omega),cf,addC,decide_eq_false (by omega),cf,addC,wrap64 (n:=1+(nds a:Int)) (by omega) (by omega),wrap64 (by omega) (by omega)]
  omega
 | .neg a,H+1,hH,h=>by
  have hp:2^(H+1)=2*2^H:=by rw [Nat.pow_succ]; omega
  have h40:2^H≤2^40:=Nat.pow_le_pow_right (by omega) (by omega)
  have hv:(2:Nat)^40=1099511627776:=by decide
  obtain ⟨h1,h2⟩:=cond_nn h
  have h3:=addC_1 h2
  rw [pred64 (by omega)] at h3
  obtain ⟨e1,b1⟩:=cnt_nds a H (by omega) h3
  have en:nds (.neg a)=nds a+1:=rfl
  refine ⟨?_,by omega⟩
  rw [cnt,h1,ct,pred64 (by omega),e1,addC,decide_eq_false (by omega),cf,addC,wrap64 (by omega) (by omega)]
  omega
 | .sum s a,H+1,hH,h=>by
  have hp:2^(H+1)=2*2^H:=by rw [Nat.pow_succ]; omega
  have h40:2^H≤2^40:=Nat.pow_le_pow_right (by omega) (by omega)
  have hv:(2:Nat)^40=1099511627776:=by decide
  obtain ⟨h1,h2⟩:=cond_nn h
  have h3:=addC_1 h2
  rw [pred64 (by omega)] at h3
  obtain ⟨e1,b1⟩:=cnt_nds a H (by omega) h3
  have en:nds (.sum s a)=nds a+1:=rfl
  refine ⟨?_,by omega⟩
  rw [cnt,h1,ct,pred64 (by omega),e1,addC,decide_eq_false (by omega),cf,addC,wrap64 (by omega) (by omega)]
  omega
theorem pNode_nds :∀(y:Nd) (H:Nat),wf H y=true→(pNode y).length≤11*nds y
 | y,0,h=>by cases h
 | .zero,H+1,h=>by cases h
 | .num n,H+1,h=>by rw [pNode,List.length_singleton]; unfold nds; omega
 | .ref s ix,H+1,h=>by
  rw [wf,Bool.and_eq_true] at h
  have hi:=h.2
  unfold indexed at hi
  rw [Bool.and_eq_true] at hi
  have h4:=of_decide_eq_true hi.1
  have:=pList_len (ix.map wdT)
  rw [List.length_map] at this
  rw [pNode,List.length_cons]
  unfold nds
  omega
 | .bin o a b,H+1,h=>by
  rw [wf,Bool.and_eq_true,Bool.and_eq_true] at h
  have ha:=pNode_nds a H h.2.1
  have hb:=pNode_nds b H h.2.2
  have en:nds (.bin o a b)=nds a+nds b+1:=rfl
  rw [pNode,List.length_cons,List.length_append,List.length_cons,List.length_append,List.length_singleton]
  omega
 | .neg a,H+1,h=>by
  have ha:=pNode_nds a H h
  have en:nds (.neg a)=nds a+1:=rfl
  rw [pNode,List.length_cons]
  omega
 | .sum s a,H+1,h=>by
  rw [wf,Bool.and_eq_true] at h
  have ha:=pNode_nds a H h.2
  have en:nds (.sum s a)=nds a+1:=rfl
  rw [pNode,List.length_cons,List.length_cons,List.length_cons,List.length_cons,List.length_append,List.length_singleton]
  omega
def exprE(y:Nd) :List UInt8×Int:=joinE ((pNode y).map tkOf)
theorem may_len{y:Nd}(h:mayN y=true) :(pNode y).length≤1320:=by
 have hw:=may_wf h
 unfold mayN at h
 rw [Bool.and_eq_true] at h
 have h1:=of_decide_eq_true h.1
 have h2:=of_decide_eq_true h.2
 obtain ⟨e,_⟩:=cnt_nds y 16 (by omega) (show 0≤cnt y 16 by omega)
 have:=pNode_nds y 16 hw
 have e:cnt y 16=(nds y:Int):=e
 omega
theorem pNode_ne{y:Nd}{H:Nat}(h:wf H y=true) :pNode y ≠[]:=by
 cases H with
 | zero=>cases h
 | succ H=>
  cases y with
  | zero=>cases h
  | num n=>rw [pNode]; simp
  | ref s ix=>rw [pNode]; simp
  | bin o a b=>rw [pNode]; simp
  | neg a=>rw [pNode]; simp
  | sum s a=>rw [pNode]; simp
theorem wr_expr{y:Nd}(h:mayN y=true) :Wr (pNode y):=wr_step (out:=[]) ⟨.inl rfl,fun t ht=>by cases ht⟩ (node_g 16 y (may_wf h)) (pNode_ne (may_wf h))
theorem joinE_err{l:List (Tk×Int)}(h:(joinE l).2 ≠0) :(joinE l).1=[]:=by
 unfold joinE at h ⊢
 split
 ·rfl
 ·rename_i b e
  rw [e] at h
  dsimp only at h ⊢
  split
  ·rfl
  ·rename_i h1
   rw [if_neg h1] at h
   split
   ·rfl
   ·rename_i h2
    rw [if_neg h2] at h
    exact absurd rfl h
theorem expr_small{y:Nd}(h:mayN y=true)(h0:(exprE y).2=0) :(exprE y).1.length≤65536:=by
 have hn:=may_len h
 have hw:=wr_wt (wr_expr h).2
 have hj:=jtext_len ((pNode y).map tkOf) [] (by simp)
 have e:(exprE y).1=jtext [] ((pNode y).map tkOf):=joinE_small h0
 rw [e]
 simp only [List.length_nil,Nat.add_zero] at hj
 omega
theorem write22{k:Nat}{x:T}(h:IsN k x) :vr 22 0 [.t x] e0=some (.tup [.t (.str ⟨#[]⟩), .t (.int .i64 1)],e0)∨
  ∃y,NdRel y x∧mayN y=true∧vr 22 0 [.t x] e0=some (.tup [.t (.str ⟨(exprE y).1.toArray⟩), .t (.int .i64 (exprE y).2)],e0):=by
 obtain ⟨b,h1,h2⟩:=mayD h
 obtain ⟨op,n,s,f1,ix,f2,l,rfl⟩:=isN_form h
 rw [eq22,R22,h1,callK_some,asT_t,asB_bool,endB_nil]
 cases b with
 | false=>exact .inl rfl
 | true=>
  obtain ⟨y,hr,hm⟩:=h2 rfl
  have hl:=may_len hm
  have hw:=wr_expr hm
  have hj:=wr_wt hw.2
  right
  refine ⟨y,hr,hm, ?_⟩
  have e3:=join23 true (pNode y) (fun t ht=>(hw.2 t ht).1) (joinOk_of (by rw [List.length_map]; omega) (by omega))
  rw [bNT,cf,pen_call (node45R y 16 (may_wf hm) _ hr false [] (by simp; omega)),List.nil_append,e3,callK_some,asTup_tup,consV_cons,asT_t,asS_str,consV_cons,asT_t,asI_int,endV_nil,endB_nil]
  rfl
theorem read12{y:Nd}(h:mayN y=true)(h0:(exprE y).2=0) :vr 12 0 [.t (.str ⟨(exprE y).1.toArray⟩)] e0=some (.tup [.t (ndT y), .t (.int .i64 0)],e0):=by
 have hl:=may_len h
 have hw:=wr_expr h
 have ht:∀t∈pNode y,IsTok t:=fun t hm=>(hw.2 t hm).1
 have hc:=cut_of_join ht h0 (expr_small h h0)
 have hx:=exprR_is (may_wf h)
 have hc:cutOf ⟨(exprE y).1.toArray⟩=_:=hc
 rw [eq12,R12,cut12,hc,callK_some,asTup_tup,consV_cons,asT_t,asL_list,consV_cons,asT_t,asI_int,consV_cons,asT_t,asI_int,endV_nil,endB_nil,show decide ((0:Int)=0)=true from rfl,bNT,cf,rd_node (expr_w _ false (pNode y) ht (by omega)),hx]
 dsimp only
 rw [done34,callK_some,asT_t,asB_bool,rd_out,bNF,bTA,show ([]:List T).isEmpty=true from rfl,bNT,cf,←ndT_eq,may17,callK_some,asT_t,asB_bool,endB_nil,h,bNT,cf]
theorem live9b :vr 9 0 [] e0=some (.t (.bool true),e0):=live9
theorem back_8{fD fS:Bool}{TD TS:List T}{D:List Dec}(hD:All2 DecRel D TD)(hb0:TD.length≤maxLen)(hb:TS.length≤maxLen)(hs:∀y∈TS,IsS y) :J8_9 true fD TD fS TS=some (.t (.bool true),e0):=by
 obtain ⟨c,h1,h2⟩:=check24D fD fS hD hb0 hb hs
 rw [J8_9_eq,RJ8_9]
 rcases h2 with ⟨rfl,S,hS,hc⟩ | rfl
 ·obtain ⟨c1,c2,c3,c4⟩:=chk_parts hc
  have l1:=hD.length
  have l2:=hS.length
  have hj:=wr_join (wr_prog hc)
  have hsz:((⟨(textE D S).1.toArray⟩:ByteArray).size:Int)=((textE D S).1.length:Int):=by simp [ByteArray.size]
  rw [text25R fD fS hD hS hc h1,callK_some,asTup_tup,consV_cons,asT_t,asS_str,consV_cons,asT_t,asI_int,endV_nil,endB_nil]
  rcases hj with hj | hj
  ·have hj:(textE D S).2=0:=hj
   rw [hj,hsz,show decide ((0:Int)=0)=true from rfl,bNT,cf]
   cases hg:decide (65536<((textE D S).1.length:Int)) with
   | true=>rfl
   | false=>
    have hg:=of_decide_eq_false hg
    have hwr:IntKind.i64.wrap ((TD.length:Int)+(TS.length:Int))=((D.length+S.length:Nat):Int):=by rw [wrap64 (by omega) (by omega)]; omega
    have heq:=equal26R fD fS (!D.isEmpty) (!S.isEmpty) hD (decs_self D) hS (stms_self S fun x hx=>(stm_parts (c4 x hx)).2.2.2) hc
    rw [cf,parse10,text_back hc hj (by omega)]
    unfold ppV prT
    dsimp only
    rw [callK_some,asTup_tup,consV_cons,asT_t,asA_agg,consT_cons,asL_list,consT_cons,asL_list,endT_nil,consV_cons,asT_t,asI_int,consV_cons,asT_t,asI_int,endV_nil,endB_nil,ct,show decide ((0:Int)=0)=true from rfl,ct,hwr,decide_eq_true rfl,ct,heq,callK_some,asT_t,asB_bool,endB_nil]
  ·have hj:(textE D S).2=2:=hj
   have he:(textE D S).1=[]:=joinE_err (by show (textE D S).2 ≠0; rw [hj]; decide)
   rw [hj,he]
   rfl
 ·rw [eq25,R25,h1,callK_some,asT_t,asI_int,endB_nil]
  rfl
theorem back_spec(x:T)(fx:FitR Try.prog 26 x)(x2:T)(fx2:FitR Try.prog 33 x2) :∃st,vr 8 0 [.t x, .t x2] ⟨[],[]⟩=some (.t (.bool true),st):=by
 refine ⟨e0, ?_⟩
 obtain ⟨fD,TD,fS,TS,D,rfl,hD,_,hb0,hb,hs⟩:=fit_prog fx
 obtain ⟨k,fx2⟩:=fx2
 have hn:=fit_node k x2 fx2
 have hj:=back_8 (fD:=fD) (fS:=fS) hD hb0 hb hs
 obtain ⟨b1,e1⟩:=few27 (fD:=fD) (fS:=fS) hD hb0 hb hs
 obtain ⟨b2,e2⟩:=few16 k x2 hn 20
 have hw:=write22 hn
 have hr:∀y,NdRel y x2→mayN y=true→vr 23 0 [.t (ndT y), .t x2] e0=some (.t (.bool true),e0):=fun y h1 h2=>same_pair y 16 (may_wf h2) _ _ (ndRel_self y 16 (may_wf h2)) h1
 obtain ⟨op,n,s,f1,ix,f2,l,rfl⟩:=isN_form hn
 rw [eq8,R8,live9b,callK_some,asT_t,asB_bool,endB_nil,e1,callK_some,asT_t,asB_bool,endB_nil]
 cases b1 with
 | false=>rfl
 | true=>
  rw [bNT,cf,e2,callK_some,asT_t,asB_bool,endB_nil]
  cases b2 with
  | false=>rfl
  | true=>
   rw [bNT,cf]
   rcases hw with hw | ⟨y,h1,h2,hw⟩
   ·rw [hw,callK_some,asTup_tup,consV_cons,asT_t,asS_str,consV_cons,asT_t,asI_int,endV_nil,endB_nil,show decide ((1:Int)=0)=false from rfl,cf]
    exact hj
   ·have hs:=hr y h1 h2
    rw [ndT_eq] at hs
    rw [hw,callK_some,asTup_tup,consV_cons,asT_t,asS_str,consV_cons,asT_t,asI_int,endV_nil,endB_nil]
    cases h0:decide ((exprE y).2=0) with
    | false=>rw [cf]; exact hj
    | true=>
     rw [ct,read12 h2 (of_decide_eq_true h0),callK_some,asTup_tup,consV_cons,asT_t,ndT_eq,asA_agg,consT_cons,asI_int,consT_cons,asI_int,consT_cons,asS_str,consT_cons,asL_list,consT_cons,asL_list,endT_nil,consV_cons,asT_t,asI_int,endV_nil,endB_nil,show decide ((0:Int)=0)=true from rfl,bNT,cf,hs,callK_some,asT_t,asB_bool,endB_nil,bNT,cf]
     exact hj
end Go.Proofs.Ytpfploolkmcalaa.VM
end
