/- VM: what a law's row hands over, as trees, where types may recur. Conditions: none. -/
import Derived.Test.YtpfploolkmcalaaVmD
set_option linter.all false
namespace Go.Proofs.Ytpfploolkmcalaa.VM
set_option linter.unusedVariables false
set_option linter.unusedSimpArgs false
set_option linter.unusedSectionVars false
open Go AM
inductive Tc where
 | int (k:IntKind) | bool | str | sl (e:TypeId)
def cellsFs(P:Program)(go:TypeId→Option (List Tc×Bool)) :List Field→Nat→Option (List Tc)
 | [],_=>some []
 | f::fs,off=>match go f.type with
  | some (es,_)=>bif decide (f.offset=off) &&decide (P.cellsOf f.type=es.length) then (cellsFs P go fs (off+es.length)).map (es++ ·) else none
  | none=>none
def cellsD(P:Program) :Nat→TypeId→Option (List Tc×Bool)
 | 0,_=>none
 | n+1,t=>match P.underlying t with
  | some (.int k)=>some ([.int k],false)
  | some .bool=>some ([.bool],false)
  | some .string=>some ([.str],false)
  | some (.slice e)=>some ([.sl e],false)
  | some (.struct fs)=>match cellsFs P (cellsD P n) fs.toList 0 with
   | some es=>bif decide (P.cellsOf t=es.length) then some (es,true) else none
   | none=>none
  | _=>none
def fitTc(P:Program)(fe:TypeId→T→Prop) :Tc→T→Prop
 | .int k,x=>∃n,x= .int k n∧(Lit.int k n).wf=true
 | .bool,x=>∃b,x= .bool b
 | .str,x=>∃s,x= .str s∧s.size≤maxLen
 | .sl e,x=>∃nn l,x= .list (P.cellsOf e) nn l∧l.length≤maxLen∧(nn=false→l=[])∧∀y∈l,fe e y
def fitE(P:Program) :Nat→TypeId→T→Prop
 | 0,_,_=>False
 | n+1,e,y=>∃es ag ts,cellsD P 6 e=some (es,ag)∧y=packT ag ts∧All2 (fitTc P (fitE P n)) es ts
def FitR(P:Program)(t:TypeId)(x:T) :Prop:=∃n,fitE P n t x
theorem fitTc_imp{P:Program}{fe fe2:TypeId→T→Prop}(h:∀e y,fe e y→fe2 e y) :∀c x,fitTc P fe c x→fitTc P fe2 c x
 | .int k,x,hx=>hx
 | .bool,x,hx=>hx
 | .str,x,hx=>hx
 | .sl e,x,hx=>by
  obtain ⟨nn,l,h1,h2,h3,h4⟩:=hx
  exact ⟨nn,l,h1,h2,h3,fun y hy=>h e y (h4 y hy)⟩
theorem fitE_succ{P:Program} :∀(n:Nat) (e:TypeId) (y:T),fitE P n e y→fitE P (n+1) e y
 | 0,e,y,h=>h.elim
 | n+1,e,y,h=>by
  obtain ⟨es,ag,ts,h1,h2,h3⟩:=h
  exact ⟨es,ag,ts,h1,h2,h3.imp (fitTc_imp (fitE_succ n))⟩
theorem fitE_le{P:Program}{n m:Nat}(h:n≤m){e:TypeId}{y:T}(hy:fitE P n e y) :fitE P m e y:=by
 induction h with
 | refl=>exact hy
 | step _ ih=>exact fitE_succ _ _ _ ih
theorem fitTc_le{P:Program}{n m:Nat}(h:n≤m){es:List Tc}{ts:List T}(hy:All2 (fitTc P (fitE P n)) es ts) :All2 (fitTc P (fitE P m)) es ts:=
 hy.imp (fitTc_imp fun _ _ hx=>fitE_le h hx)
theorem fitTc_one{P:Program}{fe:TypeId→T→Prop}{e:Tc}{x:T}(h:fitTc P fe e x) :x.cells=[x]:=by
 cases e with
 | int k=>obtain ⟨n,rfl,_⟩:=h; rfl
 | bool=>obtain ⟨b,rfl⟩:=h; rfl
 | str=>obtain ⟨s,rfl,_⟩:=h; rfl
 | sl e=>obtain ⟨nn,l,rfl,_⟩:=h; rfl
theorem pack_cellsR{P:Program}{fe:TypeId→T→Prop}{es:List Tc}{ag:Bool}{ts:List T}(h:All2 (fitTc P fe) es ts)(hg:(ag || decide (es.length=1))=true) :(packT ag ts).cells=ts:=by
 unfold packT
 cases ag with
 | true=>rfl
 | false=>
  have h1:es.length=1:=by simpa using hg
  match es,ts,h1,h with
  | [e],[t],_, .cons h3 .nil=>exact fitTc_one h3
def closeB(P:Program)(Ts:List TypeId) :Bool:=Ts.all fun e=>match cellsD P 6 e with
 | some (es,ag)=>decide (0<es.length) &&decide (P.cellsOf e=es.length) &&(ag || decide (es.length=1)) &&es.all fun c=>match c with | .sl e'=>Ts.contains e' | _=>true
 | none=>false
def InTs(Ts:List TypeId)(es:List Tc) :Prop:=∀e,Tc.sl e∈es→e∈Ts
theorem close_at{P:Program}{Ts:List TypeId}(h:closeB P Ts=true){e:TypeId}(he:e∈Ts) :∃es ag,cellsD P 6 e=some (es,ag)∧0<es.length∧P.cellsOf e=es.length∧(ag || decide (es.length=1))=true∧InTs Ts es:=by
 have h:=List.all_eq_true.1 h e he
 split at h
 ·rename_i es ag hc
  simp only [Bool.and_eq_true,decide_eq_true_eq] at h
  obtain ⟨⟨⟨h1,h2⟩,h3⟩,h4⟩:=h
  refine ⟨es,ag,hc,h1,h2,h3,fun e' he'=> ?_⟩
  have:=List.all_eq_true.1 h4 _ he'
  simpa using this
 ·cases h
section
variable {H:Type} {enc:TypeId×Value→H} {P:Program} {w:World}
def CellsR(P:Program)(w:World)(es:List Tc)(cs:List Value) :Prop:=
 ∃n ts,All2 (fitTc P (fitE P n)) es ts∧All2 (fun t v=>∃v',oldV w.heap.size v=some v'∧SR (fz0 w) t v') ts cs
theorem CellsR.one{n:Nat}{e:Tc}{x:T}{v v':Value}(h:fitTc P (fitE P n) e x)(h1:oldV w.heap.size v=some v')(h2:SR (fz0 w) x v') :CellsR P w [e] [v]:=
 ⟨n,[x], .cons h .nil, .cons ⟨v',h1,h2⟩ .nil⟩
theorem structR{Ts:List TypeId}{n:Nat}(go:TypeId→Option (List Tc×Bool)){cs:List Value}{xs:List (DataW H×List MemPlace)}{all:List Field}
  (ih:∀t es ag cs x,go t=some (es,ag)→InTs Ts es→DataW.trod enc P w 0 (fun _=>true) true n t cs=some x→SlIn w.heap.size cs→CellsR P w es cs)
  (hx:∀(i:Nat) (f:Field),all[i]? =some f→DataW.trod enc P w 0 (fun _=>true) true n f.type ((cs.drop f.offset).take (P.cellsOf f.type))=xs[i]?) (hxl:xs.length=all.length) (hs:SlIn w.heap.size cs):
  ∀(fs:List Field) (i off:Nat) (es:List Tc),all.drop i=fs→cellsFs P go fs off=some es→InTs Ts es→CellsR P w es ((cs.drop off).take es.length)
 | [],i,off,es,hd,h,hin=>by
  cases h
  exact ⟨0,[], .nil,by simpa using All2.nil⟩
 | f::fs,i,off,es,hd,h,hin=>by
  unfold cellsFs at h
  split at h
  ·rename_i e1 ag1 hgo
   cases hc:(decide (f.offset=off) &&decide (P.cellsOf f.type=e1.length)) <;>rw [hc] at h
   ·cases h
   ·simp only [Bool.and_eq_true,decide_eq_true_eq] at hc
    simp only [cond_true,Option.map_eq_some_iff] at h
    obtain ⟨e2,h2,rfl⟩:=h
    have hi:all[i]? =some f:=by
     have:=congrArg (fun l=>l[0]?) hd
     simpa using this
    have hlt:i<all.length:=(List.getElem?_eq_some_iff.1 hi).1
    have hrun:=hx i f hi
    obtain ⟨y,hy⟩:∃y,xs[i]? =some y:=⟨_,List.getElem?_eq_getElem (by omega)⟩
    rw [hy,hc.1,hc.2] at hrun
    obtain ⟨n1,ts1,k1,k2⟩:=ih f.type e1 ag1 _ y hgo (fun e he=>hin e (List.mem_append_left _ he)) hrun (by
     rcases hs with h | h
     ·exact .inl h
     ·exact .inr fun a n c hm=>h a n c (List.mem_of_mem_drop (List.mem_of_mem_take hm)))
    have hd':all.drop (i+1)=fs:=by rw [←List.drop_drop,hd]; rfl
    obtain ⟨n2,ts2,k4,k5⟩:=structR go ih hx hxl hs fs (i+1) (off+e1.length) e2 hd' h2 (fun e he=>hin e (List.mem_append_right _ he))
    have e:(cs.drop off).take e1.length++(cs.drop (off+e1.length)).take e2.length=(cs.drop off).take (e1++e2).length:=by
     rw [List.length_append,List.take_add,List.drop_drop]
    exact ⟨max n1 n2,ts1++ts2,(fitTc_le (Nat.le_max_left ..) k1).append (fitTc_le (Nat.le_max_right ..) k4),by rw [←e]; exact k2.append k5⟩
  ·cases h
theorem max_all(f:Nat→Nat) :∀c,∃N,∀i,i<c→f i≤N
 | 0=>⟨0,fun i h=>absurd h (by omega)⟩
 | c+1=>by
  obtain ⟨N,hN⟩:=max_all f c
  refine ⟨max N (f c),fun i h=> ?_⟩
  by_cases hi:i<c
  ·exact Nat.le_trans (hN i hi) (Nat.le_max_left ..)
  ·obtain rfl:i=c:=by omega
   exact Nat.le_max_right ..
theorem trodR{Ts:List TypeId}(hcl:closeB P Ts=true) :∀(fuel m:Nat) (t:TypeId) (es:List Tc) (ag:Bool),cellsD P m t=some (es,ag)→InTs Ts es→∀(cs:List Value) (x:DataW H×List MemPlace),
  DataW.trod enc P w 0 (fun _=>true) true fuel t cs=some x→SlIn w.heap.size cs→CellsR P w es cs:=by
 intro fuel
 induction fuel with
 | zero=>intro m t es ag h hin cs x hx; simp [DataW.trod] at hx
 | succ fuel ih=>
  intro m t es ag h hin cs x hx hs
  cases m with
  | zero=>cases h
  | succ m=>
  unfold cellsD at h
  split at h
  ·rename_i k hu
   cases h
   obtain ⟨n,rfl,rfl,hw⟩:=DataW.trod_int hu hx
   exact CellsR.one (n:=0) (x:= .int k n) ⟨n,rfl,hw⟩ rfl (.int k n)
  ·rename_i hu
   cases h
   obtain ⟨b,rfl,rfl⟩:=DataW.trod_bool hu hx
   exact CellsR.one (n:=0) (x:= .bool b) ⟨b,rfl⟩ rfl (.bool b)
  ·rename_i hu
   cases h
   obtain ⟨s,rfl,rfl,hw⟩:=DataW.trod_string hu hx
   exact CellsR.one (n:=0) (x:= .str s) ⟨s,rfl,hw⟩ rfl (.str s)
  ·rename_i e hu
   cases h
   obtain ⟨es1,ag1,hte,hpos,hcell,hagg,hin1⟩:=close_at hcl (hin e (by simp))
   rcases DataW.trod_slice hu hx with ⟨rfl,rfl⟩ | ⟨a,len,cap,elems,rest,n,hfn,rfl,rfl,_,hl,hm,hlen,hel,hsp,_⟩
   ·exact CellsR.one (n:=0) (x:= .list (P.cellsOf e) false []) ⟨false,[],rfl,by simp,fun _=>rfl,by simp⟩ rfl (.nil _)
   ·obtain rfl:fuel=n:=by omega
    obtain ⟨hrl,hr⟩:=hsp rfl
    rw [hcell] at hel hr
    have each:∀i,i<cap→∃csi,csi.length=es1.length∧(∀k,k<es1.length→w.cell? (a.add (i*es1.length+k))=csi[k]?)∧∃y,DataW.trod enc P w 0 (fun _=>true) true fuel e csi=some y:=by
     intro i hi
     have hb:∃y,(w.cells? 0 (a.add (i*es1.length)) es1.length).bind (DataW.trod enc P w 0 (fun _=>true) true fuel e)=some y:=by
      by_cases h1:i<len
      ·exact ⟨elems[i],by rw [hel i h1]; exact List.getElem?_eq_getElem (by omega)⟩
      ·have:=hr (i - len) (by omega)
       rw [show len+(i - len)=i by omega] at this
       exact ⟨rest[i - len]'(by omega),by rw [this]; exact List.getElem?_eq_getElem (by omega)⟩
     obtain ⟨y,hy⟩:=hb
     rw [Option.bind_eq_some_iff] at hy
     obtain ⟨csi,h1,h2⟩:=hy
     obtain ⟨_,h3,h4⟩:=World.cells?_some h1
     exact ⟨csi,h3,fun k hk=>by rw [←add_add]; exact h4 k hk,y,h2⟩
    by_cases hcap:cap=0
    ·subst hcap
     obtain rfl:len=0:=by omega
     have hn:∃a',oldV w.heap.size (.slice (some a) 0 0)=some (.slice (some a') 0 0)∧a'.block<w.heap.size:=by
      by_cases hlt:a.block<w.heap.size
      ·exact ⟨a,oldV_flat (decide_eq_true hlt),hlt⟩
      ·have h0:0<w.heap.size:=by
        rcases hs with h | h
        ·exact h
        ·exact absurd (h a 0 0 (by simp)) hlt
       refine ⟨⟨0,0,none⟩, ?_,h0⟩
       unfold oldV
       have:flatB w.heap.size (.slice (some a) 0 0)=false:=decide_eq_false hlt
       rw [this]
       rfl
     obtain ⟨a',h1,h2⟩:=hn
     refine CellsR.one (n:=0) (x:= .list (P.cellsOf e) true []) ⟨true,[],rfl,by simp,fun _=>rfl,by simp⟩ h1 ?_
     exact SR.list (l:=[]) (c:=0) (fun _=> .bool false) (.inl ⟨h2,by simp⟩) (by simp) (fun j hj=>by simp at hj) (fun i x j y hx _=>by simp at hx)
    ·have hlt:a.block<w.heap.size:=by
      obtain ⟨csi,h1,h2,_⟩:=each 0 (by omega)
      have h3:=h2 0 hpos
      rw [List.getElem?_eq_getElem (by omega)] at h3
      have:=cell_lt h3
      have hab:(a.add (0*es1.length+0)).block=a.block:=by unfold Addr.add; split <;>rfl
      rwa [hab] at this
     have h0:0<w.heap.size:=by omega
     have tree:∀i,∃nt:Nat×List T,i<cap→All2 (fitTc P (fitE P nt.1)) es1 nt.2∧(∀k y,nt.2[k]? =some y→∃v v',w.cell? (a.add (i*es1.length+k))=some v∧oldV w.heap.size v=some v'∧SR (fz0 w) y v'):=by
      intro i
      by_cases hi:i<cap
      ·obtain ⟨csi,h1,h2,y,h3⟩:=each i hi
       obtain ⟨n,ts,h4,h5⟩:=ih 6 e es1 ag1 hte hin1 csi y h3 (.inl h0)
       refine ⟨(n,ts),fun _=>⟨h4,fun k y hk=> ?_⟩⟩
       obtain ⟨v,hv,v',h6,h7⟩:=h5.get hk
       have hk2:k<ts.length:=(List.getElem?_eq_some_iff.1 hk).1
       have:=h4.length
       exact ⟨v,v',by rw [h2 k (by omega)]; exact hv,h6,h7⟩
      ·exact ⟨(0,[]),fun h=>absurd h hi⟩
     obtain ⟨gn,hgn⟩:=Classical.axiomOfChoice tree
     obtain ⟨N,hN⟩:=max_all (fun i=>(gn i).1) cap
     have hg:∀i,i<cap→All2 (fitTc P (fitE P N)) es1 (gn i).2∧(∀k y,(gn i).2[k]? =some y→∃v v',w.cell? (a.add (i*es1.length+k))=some v∧oldV w.heap.size v=some v'∧SR (fz0 w) y v'):=fun i hi=>
      ⟨fitTc_le (hN i hi) (hgn i hi).1,(hgn i hi).2⟩
     have hll:((List.range len).map fun i=>packT ag1 (gn i).2).length=len:=by simp
     refine CellsR.one (n:=N+1) (x:= .list (P.cellsOf e) true ((List.range len).map fun i=>packT ag1 (gn i).2)) ?_ (oldV_flat (decide_eq_true hlt)) ?_
     ·refine ⟨true,_,rfl,by rw [hll]; omega,(fun h=>by cases h),fun y hy=> ?_⟩
      obtain ⟨i,hi,rfl⟩:=List.mem_map.1 hy
      exact ⟨es1,ag1,(gn i).2,hte,rfl,(hg i (by have:=List.mem_range.1 hi; omega)).1⟩
     ·have hf:∀j,j<len*es1.length→∃v v',w.cell? (a.add j)=some v∧oldV w.heap.size v=some v':=by
       intro j hj
       have hi:j / es1.length<len:=(Nat.div_lt_iff_lt_mul hpos).2 hj
       obtain ⟨h1,h2⟩:=hg (j / es1.length) (by omega)
       have hk:j % es1.length<(gn (j / es1.length)).2.length:=by rw [←h1.length]; exact Nat.mod_lt _ hpos
       obtain ⟨v,v',h3,h4,_⟩:=h2 (j % es1.length) _ (List.getElem?_eq_getElem hk)
       have e:j / es1.length*es1.length+j % es1.length=j:=by rw [Nat.mul_comm]; exact Nat.div_add_mod _ _
       rw [e] at h3
       exact ⟨v,v',h3,h4⟩
      rw [hcell]
      have hsl:=SR.list (z:=fz0 w) (sz:=es1.length) (l:=(List.range len).map fun i=>packT ag1 (gn i).2) (a:=a) (c:=cap)
       (fun j=>match w.cell? (a.add j) with | some v=>(oldV w.heap.size v).getD (.bool false) | none=> .bool false)
       (.inl ⟨hlt,by rw [hll]; exact hl⟩)
       (fun x hx=>by
        obtain ⟨i,hi,rfl⟩:=List.mem_map.1 hx
        have h1:=(hg i (by have:=List.mem_range.1 hi; omega)).1
        rw [pack_cellsR h1 hagg,←h1.length])
       (fun j hj=>by
        rw [hll] at hj
        obtain ⟨v,v',h1,h2⟩:=hf j hj
        refine ⟨.inl ?_, ?_⟩
        ·have hab:(a.add j).block=a.block:=by unfold Addr.add; split <;>rfl
         rw [hab]; exact hlt
        ·rw [h1]
         dsimp only
         rw [h2]
         exact start_cellV h1 h2)
       (fun i x j y hx hy=>by
        rw [List.getElem?_map,Option.map_eq_some_iff] at hx
        obtain ⟨i',hi',rfl⟩:=hx
        have hi2:i<len:=by have:=(List.getElem?_eq_some_iff.1 hi').1; simpa using this
        have:i'=i:=by
         rw [List.getElem?_range hi2] at hi'
         exact (Option.some.inj hi').symm
        subst this
        obtain ⟨h1,h2⟩:=hg i' (by omega)
        rw [pack_cellsR h1 hagg] at hy
        obtain ⟨v,v',h3,h4,h5⟩:=h2 j y hy
        rw [h3]
        dsimp only
        rw [h4]
        exact h5)
      rw [hll] at hsl
      exact hsl
  ·rename_i fs hu
   split at h
   ·rename_i es1 hfs
    cases hc:decide (P.cellsOf t=es1.length) <;>rw [hc] at h
    ·cases h
    ·have hcell:=of_decide_eq_true hc
     cases h
     obtain ⟨xs,n,hfn,rfl,hl,hxl,hf⟩:=DataW.trod_struct hu hx
     obtain rfl:fuel=n:=by omega
     have k:=structR (Ts:=Ts) (n:=fuel) (cellsD P m) (cs:=cs) (xs:=xs) (all:=fs.toList) (fun t es ag cs x h1 h2 h3 h4=>ih m t es ag h1 h2 cs x h3 h4) (fun i f h=>hf i f (by simpa using h)) (by simpa using hxl) hs fs.toList 0 0 _ rfl hfs hin
     rw [List.drop_zero,←hcell,←hl,List.take_length] at k
     exact k
   ·cases h
  ·cases h
theorem data_startR{Ts:List TypeId}{t:TypeId}{v:Value}{d:DataW H}{p:List MemPlace}{base:Nat}(hcl:closeB P Ts=true)(ht:t∈Ts)(hv:Value.okWide P w .any base t v)
  (h:DataW.Trod enc P w 0 (fun _=>true) true t v d p):∃x,FitR P t x∧VR (fz0 w) G0 (.t x) v∧flatB w.heap.size v=true:=by
 obtain ⟨fuel,h⟩:=h
 have hin:=okWide_in hv
 obtain ⟨es,ag,hty,hpos,hcellP,hagg,hinT⟩:=close_at hcl ht
 obtain ⟨n,ts,h1,h2⟩:=trodR (w:=w) hcl fuel 6 t es ag hty hinT v.cells.toList _ h (.inr hin)
 have hflat:∀u∈v.cells.toList,flat1 w.heap.size u=true:=by
  intro u hu
  obtain ⟨i,hi⟩:=List.getElem?_of_mem hu
  have hil:i<ts.length:=by rw [h2.length]; exact (List.getElem?_eq_some_iff.1 hi).1
  obtain ⟨u',hu',v',h3,h4⟩:=h2.get (List.getElem?_eq_getElem hil)
  rw [hi] at hu'
  cases hu'
  exact flat1_of h3 h4 (fun a n c he=>hin a n c (by rw [←he]; exact hu))
 have hsr:SRs (fz0 w) ts v.cells.toList:=by
  refine All2.of_get h2.length (fun i x y hx hy=> ?_)
  obtain ⟨y',hy',v',h3,h4⟩:=h2.get hx
  rw [hy] at hy'
  cases hy'
  have hf:=hflat y (List.mem_of_getElem? hy)
  have:oldV w.heap.size y=some y:=by
   refine oldV_flat ?_
   cases y with
   | agg cs=>cases hf
   | _=>exact hf
  rw [this] at h3
  cases h3
  exact h4
 have kind:(∃cs,v= .agg cs∧ag=true)∨(v.cells.toList=[v]∧ag=false∧flatB w.heap.size v=flat1 w.heap.size v):=by
  unfold cellsD at hty
  unfold Value.okWide at hv
  split at hty
  ·rename_i k hu
   cases hty
   right
   cases v with
   | agg cs=>rw [hu] at hv; simp [Cell.okWide,Cell.ok,hu] at hv
   | _=>exact ⟨rfl,rfl,rfl⟩
  ·rename_i hu
   cases hty
   right
   cases v with
   | agg cs=>rw [hu] at hv; simp [Cell.okWide,Cell.ok,hu] at hv
   | _=>exact ⟨rfl,rfl,rfl⟩
  ·rename_i hu
   cases hty
   right
   cases v with
   | agg cs=>rw [hu] at hv; simp [Cell.okWide,Cell.ok,hu] at hv
   | _=>exact ⟨rfl,rfl,rfl⟩
  ·rename_i e hu
   cases hty
   right
   cases v with
   | agg cs=>rw [hu] at hv; simp [Cell.okWide,Cell.ok,hu] at hv
   | _=>exact ⟨rfl,rfl,rfl⟩
  ·rename_i fs hu
   left
   rw [hu] at hv
   obtain ⟨cs,rfl,_⟩:=hv
   refine ⟨cs,rfl, ?_⟩
   split at hty
   ·rename_i es1 _
    cases hb:decide (P.cellsOf t=es1.length) <;>rw [hb] at hty <;>cases hty
    rfl
   ·cases hty
  ·cases hty
 refine ⟨packT ag ts,⟨n+1,es,ag,ts,hty,rfl,h1⟩, ?_, ?_⟩
 ·rcases kind with ⟨cs,rfl,rfl⟩ | ⟨hcell,rfl,_⟩
  ·exact .tagg hsr
  ·rw [hcell] at hsr
   cases hsr with
   | cons h3 h4=>
    cases h4
    exact .t h3
 ·rcases kind with ⟨cs,rfl,rfl⟩ | ⟨hcell,rfl,hb⟩
  ·exact List.all_eq_true.2 hflat
  ·rw [hb]
   exact hflat v (by rw [hcell]; simp)
end
end Go.Proofs.Ytpfploolkmcalaa.VM
