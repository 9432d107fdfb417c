/- Merged: Am15 Am16 Am17 Am18 Am19 Am20 Am21. Conditions: none. -/
import Derived.Test.YtpfploolkmcalaaAmB
import Derived.Scope
set_option linter.all false
section
namespace Go.Proofs.Ytpfploolkmcalaa.AM
open Go Go.RowKit
set_option linter.unusedSectionVars false
set_option linter.unusedSimpArgs false
set_option linter.unusedVariables false
def CallOK(P:Program)(B:Nat)(W:World)(call:FuncId→List Value→Hp→Option (Value×Hp)) :Prop:=
 ∀ g as h v h', call g as h = some (v, h') → (∃ fn c, P.funcs[g]? = some fn ∧ fn.body = some c ∧ (fn.name == "runtime.NumGoroutine") = false) ∧
  ∀ρ w as',Sim B W ρ h w→VRels B ρ as as'.toList→Calls P g as' w fun e w'=>∃v',e= .returned v'∧Post B W ρ h' v v' w'
section
variable {B:Nat} {W:World} {ρ:Places} {h h':Hp} {w:World} {P:Program} {H:Hint} {call:FuncId→List Value→Hp→Option (Value×Hp)}
structure FrameRel (B:Nat) (ρ:Places) (nt:Nat) (e:Env) (a:Act):Prop where
 env:EnvRel B ρ e a.tmps
 size:a.tmps.size=nt
 defers:a.defers=[]
theorem EnvRel.mono{ρ':Places}{e:Env}{t:Array Value}(h:EnvRel B ρ e t)(hle:LeP ρ ρ') :EnvRel B ρ' e t:=fun i=>(h i).mono hle
theorem FrameRel.mono{ρ':Places}{nt:Nat}{e:Env}{a:Act}(h:FrameRel B ρ nt e a)(hle:LeP ρ ρ') :FrameRel B ρ' nt e a:=⟨h.env.mono hle,h.size,h.defers⟩
theorem FrameRel.same{nt:Nat}{e e':Env}{a:Act}(h:FrameRel B ρ nt e a)(he:∀t,e'.get t=e.get t) :FrameRel B ρ nt e' a:=⟨fun t=>by rw [he]; exact h.env t,h.size,h.defers⟩
theorem get_put(e:Env)(d:Option Nat)(v:Value)(t:Nat) :(e.put d v).get t=if d=some t then v else e.get t:=by
 cases d with
 | none=>rfl
 | some d=>
  simp only [Env.put,Env.get,Option.some.injEq]
  by_cases h:d=t
  ·subst h; simp
  ·have:(d==t)=false:=by simpa using h
   simp [h,this]
theorem FrameRel.put{nt:Nat}{e:Env}{a:Act}(h:FrameRel B ρ nt e a){d:Option Nat}(hd:∀x,d=some x→x<nt){v v':Value}(hv:VRel B ρ v v') :FrameRel B ρ nt (e.put d v) (a.put d v'):=by
 refine ⟨fun t=> ?_, ?_, ?_⟩
 ·rw [get_put]
  cases d with
  | none=>simpa [Act.put] using h.env t
  | some x=>
   have hx:=hd x rfl
   simp only [Act.put,Option.some.injEq]
   by_cases hxt:x=t
   ·subst hxt
    have hlt:x<a.tmps.size:=by rw [h.size]; exact hx
    simp [Array.getD,hlt]
    exact hv
   ·rw [if_neg hxt]
    have:(a.tmps.setIfInBounds x v').getD t undef=a.tmps.getD t undef:=by
     simp only [Array.getD_eq_getD_getElem?]
     rw [Array.getElem?_setIfInBounds_ne hxt]
    rw [this]
    exact h.env t
 ·cases d <;>simp [Act.put,h.size]
 ·cases d <;>simp [Act.put,h.defers]
theorem eval_rel{nt:Nat}{e:Env}{a:Act}(h:FrameRel B ρ nt e a){x:Operand}(hx:operandOk x=true) :VRel B ρ (e.eval x) (a.eval x):=by
 cases x with
 | tmp t=>exact h.env t
 | const v=>exact rel_plain hx
 | global g=>cases hx
 | func f=>exact .func _ .nil .nil
theorem guardC_sound{R:Type}{r:R}{nt:Nat}{e:Env}{a:Act}(hf:FrameRel B ρ nt e a){ops:Array Oper}{o:Oper}{yes no:Env→Option R}(hg:guardC ops o e yes no=some r) :
  (∃e',(∀t,e'.get t=e.get t)∧yes e'=some r∧Region.wanted o (yielded ops a.tmps)=true)∨(∃e',(∀t,e'.get t=e.get t)∧no e'=some r∧Region.wanted o (yielded ops a.tmps)=false):=by
 unfold guardC at hg
 split at hg
 ·rename_i hgu
  exact .inl ⟨e,fun _=>rfl,hg,by simp [Region.wanted,hgu]⟩
 ·rename_i g want hgu
  split at hg
  ·rename_i d hd
   have hrel:=hf.env d
   split at hg
   ·rename_i b hb
    rw [hb] at hrel
    have htm:a.tmps[d]? =some (.bool b):=by
     generalize hq:a.tmps.getD d undef=q at hrel
     cases hrel
     rw [Array.getD_eq_getD_getElem?] at hq
     cases hx:a.tmps[d]? with
     | none=>rw [hx] at hq; cases hq
     | some u=>rw [hx] at hq; simp at hq; rw [hq]
    have hy:yielded ops a.tmps g=some b:=by
     unfold yielded
     rw [hd]
     simp [htm]
    have hsame:∀t,Env.get ((d, .bool b)::e) t=e.get t:=by
     intro t
     simp only [Env.get]
     by_cases h:d=t
     ·subst h; simp [hb]
     ·have:(d==t)=false:=by simpa using h
      simp [this]
    have hw:Region.wanted o (yielded ops a.tmps)=(some b==some want):=by
     simp [Region.wanted,hgu,hy]
    split at hg <;>split at hg
    ·exact .inl ⟨_,hsame,hg,by rw [hw]; rfl⟩
    ·exact .inr ⟨_,hsame,hg,by rw [hw]; rfl⟩
    ·exact .inr ⟨_,hsame,hg,by rw [hw]; rfl⟩
    ·exact .inl ⟨_,hsame,hg,by rw [hw]; rfl⟩
   ·rename_i vs hvs
    rw [hvs] at hrel
    cases hem:vs.isEmpty <;>rw [hem] at hg
    ·cases hg
    ·have hy:yielded ops a.tmps g=none:=by
      unfold yielded
      rw [hd]
      generalize hq:a.tmps.getD d undef=q at hrel
      cases hrel
      rw [Array.getD_eq_getD_getElem?] at hq
      cases hx:a.tmps[d]? with
      | none=>simp [hx]
      | some u=>
       rw [hx] at hq
       simp at hq
       simp [hx,hq]
     exact .inr ⟨e,fun _=>rfl,hg,by simp [Region.wanted,hgu,hy]⟩
   ·cases hg
  ·cases hg
theorem upon_next{o:Oper}{a:Act}{next:Act→World→Prop}{Q:Exit→Act→World→Prop}{n:Next}{v':Value}{w':World}(hr:(execOp a.eval o).run P w= .ok n w')(hn:n= .value v'∨(n= .skip∧v'=undef))(hnext:next (a.put o.dst v') w') :o.wp P a w next Q:=by
 unfold Oper.wp
 rw [hr]
 rcases hn with rfl | ⟨rfl,rfl⟩
 ·exact hnext
 ·exact hnext
theorem op_wp'(hq:EqOK P H.eqt)(hc:CallOK P B W call)(s:Sim B W ρ h w){e:Env}{a:Act}{o:Oper}(hv:∀x∈o.op.operands.toList,VRel B ρ (e.eval x) (a.eval x)){v:Value}
  (hk:opC P H call e.eval o h (fun v h=>some (v,h))=some (v,h')) {next:Act→World→Prop} {Q:Exit→Act→World→Prop}
  (hnext:∀v' w',Post B W ρ h' v v' w'→next (a.put o.dst v') w'):o.wp P a w next Q:=by
 cases hb:callB o with
 | false=>
  obtain ⟨n,v',w',h1,h2,h3⟩:=opC_sound hq s hv hb hk
  exact upon_next h1 h2 (hnext v' w' h3)
 | true=>
  obtain ⟨f,args,ts,heq,e1⟩:=opC_call P H call e.eval o h (fun v h=>some (v,h)) hb
  rw [e1] at hk
  have hfv:=hv f (by rw [heq]; simp [Op.operands,Call.operands])
  have hargs:=rels_args (B:=B) (ρ:=ρ) (args:=args) (ev:=e.eval) (ev':=a.eval) (fun x hx=>hv x (by rw [heq]; simp [Op.operands,Call.operands]; exact .inr (by simpa using hx)))
  unfold callC at hk
  split at hk
  ·rename_i g first captured hfe
   rw [hfe] at hfv
   generalize hfc:a.eval f=fc at hfv
   cases hfv with
   | func _ h1 h2=>
    rename_i first' captured'
    split at hk
    ·rename_i i hi
     obtain ⟨q,hcall,hk1⟩:=Option.bind_eq_some_iff.1 hk
     obtain ⟨v0,hh⟩:=q
     have hkv:some (v0,hh)=some (v,h'):=by
      split at hk1
      ·exact like3C_some (K:=fun v=>some (v,hh)) hk1
      ·exact hk1
     cases hkv
     obtain ⟨⟨fn,c,g1,g2,g3⟩,hcalls⟩:=hc g _ h v h' hcall
     have hrun:(execOp a.eval o).run P w= .ok (.enter g (first'++args.map a.eval++captured')) w:=by
      have:o.op= .call {callee:= .value f,args:=args,argTypes:=ts}:=heq
      unfold execOp
      rw [this]
      have g3' : (fn.name == "runtime.NumGoroutine") = false := g3
      have g2':fn.body.isNone=false:=by rw [g2]; rfl
      simp only [Sem.run_bind,resolve,hfc,Deferred.ofValue,Sem.run_pure,Result.andThen_ok,invoke,callFunc,run_program,g1]
      rw [g3',g2']
      rfl
     unfold Oper.wp
     rw [hrun]
     refine (hcalls ρ w (first'++args.map a.eval++captured') s ?_).mono ?_
     ·simp only [Array.toList_append]
      exact (h1.append hargs).append h2
     ·rintro e' w' ⟨v',rfl,hp⟩
      exact hnext v' w' hp
    ·cases hk
  ·cases hk
theorem op_wp(hq:EqOK P H.eqt)(hc:CallOK P B W call)(s:Sim B W ρ h w){nt:Nat}{e:Env}{a:Act}(hf:FrameRel B ρ nt e a){o:Oper}(ho:o.op.operands.toList.all operandOk=true){v:Value}
  (hk:opC P H call e.eval o h (fun v h=>some (v,h))=some (v,h')) {next:Act→World→Prop} {Q:Exit→Act→World→Prop}
  (hnext:∀v' w',Post B W ρ h' v v' w'→next (a.put o.dst v') w'):o.wp P a w next Q:=
 op_wp' hq hc s (fun x hx=>eval_rel hf (List.all_eq_true.1 ho x hx)) hk hnext
theorem opsC_sound(hq:EqOK P H.eqt)(hc:CallOK P B W call){nt:Nat}{ops:Array Oper}(hst:dstsOk nt ops=true){R:Type}{r:R}{K:Env→Hp→Option R}{Q:Exit→Act→World→Prop} :
  ∀(l:List Oper) (i:Nat) (ρ:Places) (e:Env) (h:Hp) (a:Act) (w:World),ops.toList.drop i=l→opsC P H call ops l e h K=some r→Sim B W ρ h w→FrameRel B ρ nt e a→
   (∀ρ' e' h' a' w',LeP ρ ρ'→Sim B W ρ' h' w'→FrameRel B ρ' nt e' a'→K e' h'=some r→Q .normal a' w')→wpOps P ops Q (List.range' i l.length) a w
 | [],i,ρ,e,h,a,w,hl,hk,s,hf,hQ=>by
  simp only [List.length_nil,List.range'_zero,wpOps]
  exact hQ ρ e h a w (LeP.refl ρ) s hf hk
 | o::rest,i,ρ,e,h,a,w,hl,hk,s,hf,hQ=>by
  have hi:ops[i]? =some o:=by
   have:(ops.toList.drop i)[0]? =some o:=by rw [hl]; rfl
   rw [List.getElem?_drop] at this
   simpa using this
  have hrest:ops.toList.drop (i+1)=rest:=by
   have:(ops.toList.drop i).drop 1=rest:=by rw [hl]; rfl
   rwa [List.drop_drop] at this
  have hmem:o∈ops.toList:=List.mem_of_getElem? (by simpa using hi)
  have hso:=List.all_eq_true.1 hst o hmem
  simp only [Bool.and_eq_true] at hso
  have hdst:∀x,o.dst=some x→x<nt:=by
   intro x hx
   have:=hso.1
   rw [hx] at this
   exact of_decide_eq_true this
  simp only [List.length_cons,List.range'_succ,wpOps,hi]
  rw [opsC] at hk
  rcases guardC_sound hf hk with ⟨e',he,hy,hw⟩ | ⟨e',he,hn,hw⟩
  ·rw [hw,if_pos rfl]
   rw [opC_eq] at hy
   obtain ⟨q,hq1,hq2⟩:=Option.bind_eq_some_iff.1 hy
   obtain ⟨v,hh⟩:=q
   refine .inl (op_wp hq hc s (hf.same he) hso.2 hq1 ?_)
   rintro v' w' ⟨ρ',hle,s',hvr⟩
   exact opsC_sound hq hc hst rest (i+1) ρ' _ _ _ _ hrest hq2 s' (((hf.same he).mono hle).put hdst hvr) (fun ρ2 e2 h2 a2 w2 l2=>hQ ρ2 e2 h2 a2 w2 (hle.trans l2))
  ·rw [hw,if_neg (by simp)]
   exact opsC_sound hq hc hst rest (i+1) ρ _ _ _ _ hrest hn s ((hf.same he).put hdst (.tuple .nil)) hQ
end
set_option maxHeartbeats 4000000 in
theorem maker_sound{B:Nat}{W:World}{P:Program}{H:Hint}{call:FuncId→List Value→Hp→Option (Value×Hp)}{ρ:Places}{h g g1:Hp}{w:World}(s:Sim B W ρ h w){ev ev':Operand→Value}{o:Oper}(hv:∀x∈o.op.operands.toList,VRel B ρ (ev x) (ev' x)){v:Value}
  (hb:newO o=true) (hk:opC P H call ev o g (fun v h=>some (v,h))=some (v,g1)) (hhol:h.hole g.next=true):
  ∃cs sz,g1=g.alloc cs sz []∧∃n v' w',(execOp ev' o).run P w= .ok n w'∧(n= .value v'∨(n= .skip∧v'=undef))∧Post B W ρ (h.fill g.next ⟨cs,sz,true,[]⟩) v v' w':=by
 have val:∀{v':Value} {w':World} {m:Sem Value} {h':Hp},execOp ev' o=(do pure (.value (←m)):Sem Next)→m.run P w= .ok v' w'→Post B W ρ h' v v' w'→
   ∃n v' w',(execOp ev' o).run P w= .ok n w'∧(n= .value v'∨(n= .skip∧v'=undef))∧Post B W ρ h' v v' w':=by
  intro v' w' m h' he hm hp
  exact ⟨_,v',w',by rw [he]; simp [hm], .inl rfl,hp⟩
 obtain ⟨dst,op,type,pos,after,guard⟩:=o
 unfold opC at hk
 dsimp only at hk hv
 split at hk <;>first
  | (simp [newO] at hb; done)
  | skip
 ·-- alloc
  rename_i t
  obtain ⟨i,z,hi,hz,hp,hk1⟩:=zeroC_some hk
  cases hk1
  have hzc:=plain_cells (B:=B) (ρ:=ρ) hp
  have S:=s.freshAt hhol z.cells.toList 0 z.cells t (by simp) (fun j u hu=>by
   obtain ⟨u',a,b⟩:=hzc.get hu
   exact ⟨u',by simpa using a,b⟩)
  refine ⟨_,_,rfl,val (m:=Instr.alloc t true (.tuple #[])) rfl (v':= .pointer (some ⟨w.heap.size,0,none⟩)) ?_ ⟨_,addP_le' (s.free _ hhol).2.2 _,S, ?_⟩⟩
  ·simp [Instr.alloc,zeroValue,typeInfo,hi,hz,newVar,newRow]
  ·have hp:=VRel.ptrNew (B:=B) (ρ:=addP ρ g.next ⟨w.heap.size,0,z.cells.size,0⟩) (r:=g.next) (o:=0) (addP_self _ _)
   exact hp
 ·-- box
  rename_i t x
  obtain ⟨hone,hk1⟩:=needC_some hk
  cases hk1
  have hzc:=rel_cells hone (hv x (by simp [Op.operands]))
  have S:=s.freshAt hhol (ev x).cells.toList 0 (ev' x).cells t (by rw [hzc.length]; simp) (fun j u hu=>by
   obtain ⟨u',a,b⟩:=hzc.get hu
   exact ⟨u',by simpa using a,b⟩)
  refine ⟨_,_,rfl,val (m:=Instr.box t (ev' x)) rfl (v':= .pointer (some ⟨w.heap.size,0,none⟩)) ?_ ⟨_,addP_le' (s.free _ hhol).2.2 _,S, ?_⟩⟩
  ·simp [Instr.box,newVar,newRow]
  ·have hp:=VRel.ptrNew (B:=B) (ρ:=addP ρ g.next ⟨w.heap.size,0,(ev' x).cells.size,0⟩) (r:=g.next) (o:=0) (addP_self _ _)
   exact hp
 ·-- buildSlice
  rename_i t n parts
  obtain ⟨e,hu,hk1⟩:=elemC_some hk
  clear hk
  obtain ⟨i,hi,hk⟩:=sizeC_some hk1
  clear hk1
  obtain ⟨hn,hk1⟩:=needC_some hk
  clear hk
  simp only [Bool.and_eq_true,decide_eq_true_eq] at hn
  obtain ⟨i',z,hi',hz,hp,hk⟩:=zeroC_some hk1
  clear hk1
  rw [hi] at hi'; cases hi'
  have hps:=prels_map (B:=B) (ρ:=ρ) (ps:=parts) (ev:=ev) (ev':=ev') (fun x hx=>hv x (by simpa [Op.operands] using hx)) hn.2
  obtain ⟨hzs,hk1⟩:=needC_some hk
  clear hk
  have hzs':=of_decide_eq_true hzs
  split at hk1
  ·rename_i cs hf
   cases hk1
   have hzr:=zeros_rel (B:=B) (ρ:=ρ) hp (n*i.size) (fun h0=>by rw [←hzs',h0,Nat.mul_zero])
   obtain ⟨cs',hf',hr⟩:=fill_rel (B:=B) (ρ:=ρ) _ hps (cs:=(zerosOf z (n*i.size)).toArray) (cs':=(zerosOf z (n*i.size)).toArray) (by simpa using hzr) hf
   have hcs':cs'.size=n*i.size:=by
    rw [fill_size _ _ _ _ hf']
    simp [zerosOf]
   have S:=s.freshAt hhol cs.toList i.size cs' e (by rw [hr.length]; simp) (fun j u hu=>by
    obtain ⟨u',a,b⟩:=hr.get hu
    exact ⟨u',by simpa using a,b⟩)
   refine ⟨_,_,rfl,val (m:=Instr.buildSlice t n (parts.map fun (i,x)=>(i,ev' x))) rfl (v':= .slice (some ⟨w.heap.size,0,none⟩) n n) (w':=w.alloc (.cells cs' e)) ?_ ⟨_,addP_le' (s.free _ hhol).2.2 _,S, ?_⟩⟩
   ·exact run_buildSlice hu hi hz n hn.1 hf' w
   ·have hp:=VRel.slNew (B:=B) (ρ:=addP ρ g.next ⟨w.heap.size,0,cs'.size,i.size⟩) (r:=g.next) (o:=0) (n:=n) (c:=n) (addP_self _ _) (Nat.le_refl _) (by simp [hcs'])
    exact hp
  ·cases hk1
 ·-- makeSlice
  rename_i t l c
  obtain ⟨e,hu,hk1⟩:=elemC_some hk
  clear hk
  split at hk1
  ·rename_i i hi
   obtain ⟨i',z,hi',hz,hp,hk⟩:=zeroC_some hk1
   clear hk1
   rw [hi] at hi'; cases hi'
   split at hk
   ·rename_i k1 n hl
    split at hk
    ·rename_i k2 m hc
     obtain ⟨hb1,hk1⟩:=needC_some hk
     clear hk
     cases hk1
     simp only [Bool.and_eq_true,decide_eq_true_eq] at hb1
     obtain ⟨⟨⟨b1,b2⟩,b3⟩,b4⟩:=hb1
     have hl':=hv l (by simp [Op.operands])
     have hc':=hv c (by simp [Op.operands])
     rw [hl] at hl'
     rw [hc] at hc'
     generalize hel:ev' l=el at hl'
     generalize hec:ev' c=ec at hc'
     cases hl'
     cases hc'
     obtain ⟨nn,rfl⟩:∃k:Nat,n=k:=⟨n.toNat,by omega⟩
     obtain ⟨mm,rfl⟩:∃k:Nat,m=k:=⟨m.toNat,by omega⟩
     have b3':mm*(i.bytes+1)≤70368744177664:=by
      have:((mm*(i.bytes+1):Nat):Int)≤70368744177664:=by
       rw [Int.natCast_mul]
       exact b3
      omega
     have hmm:=need_small b3'
     have hby:mm*i.bytes≤70368744177664:=by
      have:mm*(i.bytes+1)=mm*i.bytes+mm:=Nat.mul_succ _ _
      omega
     have hrun:=run_make (P:=P) w t e i z hu hi hz k1 k2 (nn:Int) (mm:Int) (by omega) b2 (by rw [←Int.natCast_mul,Nat.mul_comm]; omega) (by omega)
     simp only [Int.toNat_natCast] at hrun
     have hzr:=zeros_rel (B:=B) (ρ:=ρ) hp (mm*i.size) (fun h0=>by rw [←b4,h0,Nat.mul_zero])
     have hpre:∀(j:Nat) (u:Value),(zerosOf z (nn*i.size))[j]? =some u→(zerosOf z (mm*i.size))[j]? =some u:=by
      intro j u hu
      simp only [zerosOf,List.getElem?_map,Option.map_eq_some_iff] at hu ⊢
      obtain ⟨q,hq,rfl⟩:=hu
      refine ⟨q, ?_,rfl⟩
      have hjn:j<nn*i.size:=by
       rcases Nat.lt_or_ge j (nn*i.size) with hx | hx
       ·exact hx
       ·rw [List.getElem?_eq_none (by simpa using hx)] at hq; cases hq
      have hle:nn*i.size≤mm*i.size:=Nat.mul_le_mul_right _ (by omega)
      rw [List.getElem?_range hjn] at hq
      rw [List.getElem?_range (by omega)]
      exact hq
     have S:=s.freshAt hhol (zerosOf z (nn*i.size)) i.size (madeCells z.cells (mm*i.size)) e (by
       rw [size_madeCells]
       simp only [zerosOf,List.length_map,List.length_range]
       exact Nat.mul_le_mul_right _ (by omega)) (fun j u hu=>by
      obtain ⟨u',a,b⟩:=hzr.get (hpre j u hu)
      refine ⟨u', ?_,b⟩
      have hmade:madeCells z.cells (mm*i.size)=(zerosOf z (mm*i.size)).toArray:=(zeros_eq z _).symm
      rw [hmade]
      simpa using a)
     refine ⟨_,_,rfl,val (m:=Instr.makeSlice t (ev' l) (ev' c)) rfl (v':= .slice (some ⟨w.heap.size,0,none⟩) nn mm) (by rw [hel,hec]; exact hrun) ⟨_,addP_le' (s.free _ hhol).2.2 _,S, ?_⟩⟩
     have hp:=VRel.slNew (B:=B) (ρ:=addP ρ g.next ⟨w.heap.size,0,(madeCells z.cells (mm*i.size)).size,i.size⟩) (r:=g.next) (o:=0) (n:=nn) (c:=mm) (addP_self _ _) (by omega) (by simp [size_madeCells])
     simpa using hp
    ·cases hk
   ·cases hk
  ·cases hk1
end Go.Proofs.Ytpfploolkmcalaa.AM
end
section
namespace Go.Proofs.Ytpfploolkmcalaa.AM
open Go Go.RowKit
set_option linter.unusedSectionVars false
set_option linter.unusedSimpArgs false
set_option linter.unusedVariables false
structure HpWf (h:Hp):Prop where
 new:∀r b,h.new r=some b→r<h.next
 maps:∀r es,h.maps r=some es→r<h.next
structure HpStep (h h':Hp):Prop where
 base:h'.base=h.base
 hole:h'.hole=h.hole
 old:h'.old=h.old
 next:h.next≤h'.next
 low:h'.low≤h.low
 new:∀r b,r<h.next→r<h'.low→h.new r=some b→∃b',h'.new r=some b'∧b'.cells=b.cells∧b'.sz=b.sz
 maps:∀r es,r<h.next→r<h'.low→h.maps r=some es→h'.maps r=some es
 wf:HpWf h→HpWf h'
theorem HpStep.refl(h:Hp) :HpStep h h:=⟨rfl,rfl,rfl,Nat.le_refl _,Nat.le_refl _,fun r b _ _ hb=>⟨b,hb,rfl,rfl⟩,fun _ _ _ _ h=>h,id⟩
theorem HpStep.trans{a b c:Hp}(x:HpStep a b)(y:HpStep b c) :HpStep a c:=
  ⟨y.base.trans x.base,y.hole.trans x.hole,y.old.trans x.old,Nat.le_trans x.next y.next,Nat.le_trans y.low x.low,
   fun r bl h1 h2 h3=>by
    obtain ⟨b1,k1,k2,k3⟩:=x.new r bl h1 (Nat.lt_of_lt_of_le h2 y.low) h3
    obtain ⟨b2,l1,l2,l3⟩:=y.new r b1 (Nat.lt_of_lt_of_le h1 x.next) h2 k1
    exact ⟨b2,l1,l2.trans k2,l3.trans k3⟩,
   fun r es h1 h2 h3=>y.maps r es (Nat.lt_of_lt_of_le h1 x.next) h2 (x.maps r es h1 (Nat.lt_of_lt_of_le h2 y.low) h3),fun hw=>y.wf (x.wf hw)⟩
structure HpLe (h h':Hp):Prop where
 base:h'.base=h.base
 old:h'.old=h.old
 new:∀r b,h.new r=some b→∃b',h'.new r=some b'∧b'.cells=b.cells∧b'.sz=b.sz
 maps:∀r es,h.maps r=some es→h'.maps r=some es
theorem HpLe.refl(h:Hp) :HpLe h h:=⟨rfl,rfl,fun r b hb=>⟨b,hb,rfl,rfl⟩,fun _ _ h=>h⟩
theorem HpLe.trans{a b c:Hp}(x:HpLe a b)(y:HpLe b c) :HpLe a c:=
 ⟨y.base.trans x.base,y.old.trans x.old,fun r bl h3=>by
  obtain ⟨b1,k1,k2,k3⟩:=x.new r bl h3
  obtain ⟨b2,l1,l2,l3⟩:=y.new r b1 k1
  exact ⟨b2,l1,l2.trans k2,l3.trans k3⟩,fun r es h3=>y.maps r es (x.maps r es h3)⟩
structure HpLeB (q:Nat) (h h':Hp):Prop where
 base:h'.base=h.base
 old:h'.old=h.old
 new:∀b,h.new q=some b→∃b',h'.new q=some b'∧b'.cells=b.cells∧b'.sz=b.sz
theorem HpLe.one{h h':Hp}(x:HpLe h h')(q:Nat) :HpLeB q h h':=⟨x.base,x.old,x.new q⟩
theorem HpLeB.refl(q:Nat)(h:Hp) :HpLeB q h h:=⟨rfl,rfl,fun b hb=>⟨b,hb,rfl,rfl⟩⟩
theorem HpLeB.trans{q:Nat}{a b c:Hp}(x:HpLeB q a b)(y:HpLeB q b c) :HpLeB q a c:=
 ⟨y.base.trans x.base,y.old.trans x.old,fun bl h3=>by
  obtain ⟨b1,k1,k2,k3⟩:=x.new bl h3
  obtain ⟨b2,l1,l2,l3⟩:=y.new b1 k1
  exact ⟨b2,l1,l2.trans k2,l3.trans k3⟩⟩
section
variable {h h':Hp}
theorem step_alloc(h:Hp)(cs:List Value)(sz:Nat)(par:List Nat) :HpStep h (h.alloc cs sz par):=
 ⟨rfl,rfl,rfl,Nat.le_succ _,Nat.le_refl _,fun r b h1 _ hb=>⟨b,by rw [alloc_new,if_neg (by omega)]; exact hb,rfl,rfl⟩,fun _ _ _ _ h=>h,fun hw=>
  ⟨fun r b hb=>by
   show r<h.next+1
   rw [alloc_new] at hb
   split at hb
   ·omega
   ·have:=hw.new r b hb; omega,fun r es hm=>by
   show r<h.next+1
   have:=hw.maps r es hm
   omega⟩⟩
theorem wf_seal{h:Hp}(hw:HpWf h)(q:Nat) :HpWf (h.fence q):=
 ⟨fun r b hb=>by
  obtain ⟨b0,h0⟩:∃b0,h.new r=some b0:=by
   rw [seal_new] at hb
   split at hb
   ·obtain ⟨b0,h0,_⟩:=Option.map_eq_some_iff.1 hb; exact ⟨b0,h0⟩
   ·exact ⟨b,hb⟩
  exact hw.new r b0 h0,hw.maps⟩
theorem step_seal(h:Hp)(q:Nat) :HpStep h (h.fence q):=
 ⟨rfl,rfl,rfl,Nat.le_refl _,Nat.le_refl _,fun r b h1 _ hb=>by
  rw [seal_new]
  split
  ·exact ⟨{b with rw:=false},by rw [hb]; rfl,rfl,rfl⟩
  ·exact ⟨b,hb,rfl,rfl⟩,fun _ _ _ _ h=>h,fun hw=>wf_seal hw q⟩
theorem fold_min_mem :∀(l:List Nat) (r q:Nat),q<l.foldl min r→q<r∧q∉l
 | [],r,q,h=>⟨h,by simp⟩
 | x::l,r,q,h=>by
  obtain ⟨a,b⟩:=fold_min_mem l (min r x) q h
  exact ⟨by omega,by simp only [List.mem_cons,not_or]; exact ⟨by omega,b⟩⟩
theorem step_write(h:Hp)(q:Nat)(b b0:Blk)(hq:h.new q=some b0)(o:Nat)(vs:List Value) :HpStep h (h.write q b o vs):=
 ⟨rfl,rfl,rfl,Nat.le_refl _,Nat.min_le_left _ _,fun r b2 h1 h2 hb=>by
  have h2':r<min h.low (b.par.foldl min q):=h2
  obtain ⟨x,y⟩:=fold_min_mem b.par q r (by omega)
  exact ⟨b2,by rw [write_new,if_neg (by omega),if_neg y]; exact hb,rfl,rfl⟩,fun _ _ _ _ h=>h,fun hw=>
  ⟨fun r b2 hb=>by
   rw [write_new] at hb
   split at hb
   ·rename_i e; subst e; exact hw.new r b0 hq
   ·split at hb
    ·cases hb
    ·exact hw.new r b2 hb,hw.maps⟩⟩
theorem step_putMap(h:Hp)(q:Nat)(es es0:List (Value×Value))(hq:h.maps q=some es0) :HpStep h (h.putMap q es):=
 ⟨rfl,rfl,rfl,Nat.le_refl _,Nat.min_le_left _ _,fun r b2 h1 h2 hb=>⟨b2,hb,rfl,rfl⟩,fun r es2 h1 h2 hm=>by
  have h2':r<min h.low q:=h2
  unfold Hp.putMap
  have:(r==q)=false:=by simp; omega
  simp only [this,cond_false]
  exact hm,fun hw=>⟨hw.new,fun r es2 hm=>by
   unfold Hp.putMap at hm
   by_cases e:r=q
   ·subst e; exact hw.maps r es0 hq
   ·have:(r==q)=false:=by simpa using e
    simp only [this,cond_false] at hm
    exact hw.maps r es2 hm⟩⟩
theorem step_allocMap(h:Hp) :HpStep h h.allocMap:=
 ⟨rfl,rfl,rfl,Nat.le_succ _,Nat.le_refl _,fun r b2 h1 h2 hb=>⟨b2,hb,rfl,rfl⟩,fun r es2 h1 h2 hm=>by
  unfold Hp.allocMap
  have:(r==h.next)=false:=by simp; omega
  simp only [this,cond_false]
  exact hm,fun hw=>⟨fun r b hb=>by
   show r<h.next+1
   have:=hw.new r b hb
   omega,fun r es2 hm=>by
   show r<h.next+1
   unfold Hp.allocMap at hm
   by_cases e:r=h.next
   ·omega
   ·have:(r==h.next)=false:=by simpa using e
    simp only [this,cond_false] at hm
    have:=hw.maps r es2 hm
    omega⟩⟩
variable {P:Program} {H:Hint} {call:FuncId→List Value→Hp→Option (Value×Hp)}
theorem opC_ext{R:Type}{ev:Operand→Value}{o:Oper}{K K':Value→Hp→Option R}(hc:actsB o=false)(hK:∀v,K v h=K' v h) :opC P H call ev o h K=opC P H call ev o h K':=by
 unfold opC
 split <;>first
  | (simp only [hK]; done)
  | (rename_i heq; simp [actsB,cls,heq] at hc; done)
  | skip
 rename_i b args ts heq
 cases b <;>first
  | rfl
  | (simp only [hK]; done)
  | (simp [actsB,cls,heq] at hc; done)
theorem opC_quiet{ev:Operand→Value}{o:Oper}{v:Value}(hc:actsB o=false)(hk:opC P H call ev o h (fun v h=>some (v,h))=some (v,h')) :h'=h:=by
 rw [opC_ext hc (K':=fun v _=>some (v,h)) (fun _=>rfl),opC_eq] at hk
 obtain ⟨q,_,hq⟩:=Option.bind_eq_some_iff.1 hk
 cases hq
 rfl
theorem opC_pure{R:Type}{ev:Operand→Value}{o:Oper}{K:Value→Option R}(h2:Hp)(hc:cls o= .pure) :opC P H call ev o h (fun v _=>K v)=opC P H call ev o h2 (fun v _=>K v):=by
 unfold opC
 split <;>first
  | rfl
  | (rename_i heq; simp [cls,heq] at hc; done)
  | skip
 rename_i b args ts heq
 cases b <;>first
  | rfl
  | (simp [cls,heq] at hc; done)
theorem opC_pure_some{ev:Operand→Value}{o:Oper}{v:Value}(h2:Hp)(hc:cls o= .pure)(hk:opC P H call ev o h (fun v h=>some (v,h))=some (v,h')) :opC P H call ev o h2 (fun v h=>some (v,h))=some (v,h2):=by
 have ha:actsB o=false:=by simp [actsB,hc]
 rw [opC_ext ha (K':=fun v _=>some (v,h)) (fun _=>rfl)] at hk
 rw [opC_ext ha (K':=fun v _=>some (v,h2)) (fun _=>rfl)]
 have e1:opC P H call ev o h (fun v _=>some (v,h))=(opC P H call ev o h (fun v _=>some v)).bind fun v=>some (v,h):=by rw [opC_bind]; rfl
 have e2:opC P H call ev o h2 (fun v _=>some (v,h2))=(opC P H call ev o h2 (fun v _=>some v)).bind fun v=>some (v,h2):=by rw [opC_bind]; rfl
 rw [e2,←opC_pure (h:=h) h2 hc]
 rw [e1] at hk
 obtain ⟨u,hu,hq⟩:=Option.bind_eq_some_iff.1 hk
 cases hq
 rw [hu]
 rfl
theorem HpLe.cell(hle:HpLe h h')(hw:∀a v,h.old a=some v→h'.new a.block=none){a:Addr}{v:Value}(hv:h.cell a=some v) :h'.cell a=some v:=by
 unfold Hp.cell at hv ⊢
 cases hb:h.new a.block with
 | none=>
  rw [hb] at hv
  rw [hw a v hv,hle.old]
  exact hv
 | some b=>
  rw [hb] at hv
  obtain ⟨b',h1,h2,_⟩:=hle.new _ b hb
  rw [h1]
  simp only [h2]
  exact hv
theorem HpLeB.cell{q:Nat}(hle:HpLeB q h h')(hw:∀a v,h.old a=some v→h'.new a.block=none){a:Addr}{v:Value}(ha:a.block=q)(hv:h.cell a=some v) :h'.cell a=some v:=by
 unfold Hp.cell at hv ⊢
 cases hb:h.new a.block with
 | none=>
  rw [hb] at hv
  rw [hw a v hv,hle.old]
  exact hv
 | some b=>
  rw [hb] at hv
  obtain ⟨b',h1,h2,_⟩:=hle.new b (ha▸hb)
  rw [ha,h1]
  simp only [h2]
  exact hv
theorem ldC_le{R:Type}{z:Value}{a:Addr}{K:Value→Option R}{r:R}(hcell:∀b v,b.block=a.block→h.cell b=some v→h'.cell b=some v)(hk:h.ldC z a K=some r) :h'.ldC z a K=some r:=by
 unfold Hp.ldC at hk ⊢
 split at hk
 ·rename_i v hv
  rw [hcell _ _ rfl hv]
  exact hk
 ·cases hk
theorem ldCellsC_le{R:Type}{a:Addr}{r:R}(hcell:∀b v,b.block=a.block→h.cell b=some v→h'.cell b=some v) :∀{zs:List Value} {i:Nat} {K:List Value→Option R},h.ldCellsC a zs i K=some r→h'.ldCellsC a zs i K=some r
 | [],i,K,hk=>hk
 | z::zs,i,K,hk=>by
  rw [Hp.ldCellsC] at hk ⊢
  unfold Hp.ldC at hk ⊢
  split at hk
  ·rename_i v hv
   rw [hcell (a.add i) _ (by unfold Addr.add; split <;>rfl) hv]
   have e1:=like1C_bind (fun u=>h.ldCellsC a zs (i+1) fun us=>K (u::us)) z v some
   have e2:=like1C_bind (fun u=>h'.ldCellsC a zs (i+1) fun us=>K (u::us)) z v some
   simp only [Option.bind_some] at e1 e2
   rw [←e1] at hk
   dsimp only
   rw [←e2]
   obtain ⟨u,hu,hk1⟩:=Option.bind_eq_some_iff.1 hk
   rw [hu]
   exact ldCellsC_le hcell hk1
  ·cases hk
theorem loadC_le{R:Type}{t:TypeId}{a:Addr}{K:Value→Option R}{r:R}(hcell:∀b v,b.block=a.block→h.cell b=some v→h'.cell b=some v)(hk:loadC P h t a K=some r) :loadC P h' t a K=some r:=by
 unfold loadC at hk ⊢
 have body:∀b,(zeroC P t fun z=>bif b then sizeC P t fun s=>needC (decide (z.cells.size=s)) fun _=>h.ldCellsC a z.cells.toList 0 fun us=>K (.agg us.toArray) else h.ldC z a K)=some r→
   (zeroC P t fun z=>bif b then sizeC P t fun s=>needC (decide (z.cells.size=s)) fun _=>h'.ldCellsC a z.cells.toList 0 fun us=>K (.agg us.toArray) else h'.ldC z a K)=some r:=by
  intro b hb
  unfold zeroC at hb ⊢
  split at hb <;>try cases hb
  split at hb <;>try cases hb
  obtain ⟨hn,hb1⟩:=needC_some hb
  rw [hn]
  show (bif b then _ else _)=_
  dsimp only at hb1
  cases b with
  | false=>exact ldC_le hcell hb1
  | true=>
   rw [cond_true] at hb1 ⊢
   unfold sizeC at hb1 ⊢
   split at hb1 <;>try cases hb1
   obtain ⟨hn2,hb2⟩:=needC_some hb1
   dsimp only
   rw [hn2]
   exact ldCellsC_le hcell hb2
 unfold aggC at hk ⊢
 split at hk
 ·exact body _ hk
 ·exact body _ hk
 ·exact body _ hk
 ·cases hk
theorem mapAtC_le{R:Type}{x:Value}{K:List (Value×Value)→Option R}{r:R}(hle:HpLe h h')(hk:mapAtC h x K=some r) :mapAtC h' x K=some r:=by
 unfold mapAtC at hk ⊢
 unfold asMapC at hk ⊢
 split at hk
 ·dsimp only at hk ⊢
  split at hk
  ·exact hk
  ·split at hk
   ·rename_i es hes
    rw [hle.maps _ _ hes]
    exact hk
   ·cases hk
 ·cases hk
theorem cutC_le{R:Type}{a:Option Addr}{n c s:Nat}{lo hi:Option Int}{K:Value→Option R}{r:R}(hle:HpLe h h')(hk:cutC h a n c s lo hi K=some r) :cutC h' a n c s lo hi K=some r:=by
 unfold cutC cutT at hk ⊢
 split at hk
 ·exact hk
 ·rename_i ad
  rw [hle.base]
  cases hd:decide (ad.block<h.base) <;>rw [hd] at hk <;>simp only [cond_true,cond_false] at hk ⊢
  ·split at hk
   ·rename_i b hb
    obtain ⟨b',h1,h2,h3⟩:=hle.new _ b hb
    rw [h1]
    simp only [h3]
    exact hk
   ·cases hk
  ·exact hk
theorem opC_load_le{e:Env}{o:Oper}{q:Nat}{v:Value}(hr:readBlk o e=some q)(hle:HpLeB q h h')(hw:∀a v,h.old a=some v→h'.new a.block=none)(hk:opC P H call e.eval o h (fun v h=>some (v,h))=some (v,h)) :opC P H call e.eval o h' (fun v h=>some (v,h))=some (v,h'):=by
 unfold readBlk at hr
 split at hr
 ·rename_i ty x hop
  split at hr
  ·rename_i t
   split at hr
   ·rename_i a hg
    cases a with
    | none=>cases hr
    | some ad=>
     have hq:ad.block=q:=by simpa using hr
     have ha:actsB o=false:=by simp [actsB,cls,hop]
     have e1:opC P H call e.eval o h (fun v h=>some (v,h))=(opC P H call e.eval o h (fun v _=>some v)).bind fun v=>some (v,h):=by rw [opC_ext ha (K':=fun v _=>some (v,h)) (fun _=>rfl),opC_bind]; rfl
     have e2:opC P H call e.eval o h' (fun v h=>some (v,h))=(opC P H call e.eval o h' (fun v _=>some v)).bind fun v=>some (v,h'):=by rw [opC_ext ha (K':=fun v _=>some (v,h')) (fun _=>rfl),opC_bind]; rfl
     rw [e1] at hk
     obtain ⟨u,hu,hq2⟩:=Option.bind_eq_some_iff.1 hk
     cases hq2
     have hev:e.eval (.tmp t)= .pointer (some ad):=hg
     have key:opC P H call e.eval o h' (fun v _=>some v)=some v:=by
      unfold opC at hu ⊢
      rw [hop] at hu ⊢
      simp only [hev,asPtrC] at hu ⊢
      exact loadC_le (fun b v hb hv=>hle.cell hw (hb.trans hq) hv) hu
     rw [e2,key]
     rfl
   ·cases hr
  ·cases hr
 ·cases hr
theorem opC_reads_le{ev:Operand→Value}{o:Oper}{v:Value}(hc:cls o= .reads)(hle:HpLe h h')(hw:∀a v,h.old a=some v→h'.new a.block=none)(hk:opC P H call ev o h (fun v h=>some (v,h))=some (v,h)) :opC P H call ev o h' (fun v h=>some (v,h))=some (v,h'):=by
 have ha:actsB o=false:=by simp [actsB,hc]
 have hcell:∀a v,h.cell a=some v→h'.cell a=some v:=fun a v hv=>hle.cell hw hv
 have e1:opC P H call ev o h (fun v h=>some (v,h))=(opC P H call ev o h (fun v _=>some v)).bind fun v=>some (v,h):=by rw [opC_ext ha (K':=fun v _=>some (v,h)) (fun _=>rfl),opC_bind]; rfl
 have e2:opC P H call ev o h' (fun v h=>some (v,h))=(opC P H call ev o h' (fun v _=>some v)).bind fun v=>some (v,h'):=by rw [opC_ext ha (K':=fun v _=>some (v,h')) (fun _=>rfl),opC_bind]; rfl
 rw [e1] at hk
 obtain ⟨u,hu,hq⟩:=Option.bind_eq_some_iff.1 hk
 cases hq
 have key:opC P H call ev o h' (fun v _=>some v)=some v:=by
  unfold opC at hu ⊢
  split at hu <;>first
   | (rename_i heq; simp [cls,heq] at hc; done)
   | skip
  ·-- load
   rename_i t x heq
   unfold asPtrC at hu ⊢
   split at hu
   ·dsimp only at hu ⊢
    split at hu
    ·exact loadC_le (fun b v _=>hcell b v) hu
    ·cases hu
   ·cases hu
  ·-- convert
   unfold convC at hu ⊢
   split at hu
   ·exact hu
   ·exact hu
   ·exact hu
   ·split at hu
    ·unfold asSliceC at hu ⊢
     split at hu
     ·dsimp only at hu ⊢
      split at hu
      ·exact hu
      ·exact ldCellsC_le (fun b v _=>hcell b v) hu
     ·cases hu
    ·cases hu
   ·cases hu
  ·-- slice
   split at hu
   ·exact hu
   ·unfold sizeC at hu ⊢
    split at hu
    ·dsimp only at hu ⊢
     unfold asSliceC at hu ⊢
     split at hu
     ·exact cutC_le hle hu
     ·cases hu
    ·cases hu
   ·cases hu
  ·-- lookup
   unfold lookC at hu ⊢
   unfold mapTypeC at hu ⊢
   split at hu
   ·dsimp only at hu ⊢
    obtain ⟨hn,hu1⟩:=needC_some hu
    rw [hn]
    show zeroC P _ _=_
    unfold zeroC at hu1 ⊢
    split at hu1 <;>try cases hu1
    split at hu1 <;>try cases hu1
    obtain ⟨hn2,hu2⟩:=needC_some hu1
    rw [hn2]
    dsimp only at hu2
    exact mapAtC_le hle hu2
   ·cases hu
  ·-- builtins
   rename_i b args ts heq
   cases b <;>first
    | (simp [cls,heq] at hc; done)
    | (cases hu; done)
    | skip
   dsimp only at hu ⊢
   unfold lenC at hu ⊢
   split at hu
   ·split at hu
    ·exact hu
    ·exact hu
    ·exact hu
    ·unfold asMapC at hu ⊢
     split at hu
     ·dsimp only at hu ⊢
      split at hu
      ·exact hu
      ·split at hu
       ·rename_i es hes
        rw [hle.maps _ _ hes]
        exact hu
       ·cases hu
     ·cases hu
    ·cases hu
   ·cases hu
  ·cases hu
 rw [e2,key]
 rfl
theorem lenC_free{R:Type}{ts:List TypeId}{as:List Value}(hn:∀r,as ≠[.map (some r)])(h h':Hp)(K:Value→Option R) :lenC P ts as h K=lenC P ts as h' K:=by
 unfold lenC
 split
 ·split <;>try rfl
  unfold asMapC
  split
  ·dsimp only
   split
   ·rfl
   ·exact absurd rfl (hn _)
  ·rfl
 ·rfl
theorem opC_free{e:Env}{o:Oper}{v:Value}(hl:lenB o=true)(hf:lenFree o e.eval=true)(hk:opC P H call e.eval o h (fun v h=>some (v,h))=some (v,h)) :opC P H call e.eval o h' (fun v h=>some (v,h))=some (v,h'):=by
 have ha:actsB o=false:=by
  unfold lenB at hl
  split at hl
  ·rename_i heq; simp [actsB,cls,heq]
  ·cases hl
 have e1:opC P H call e.eval o h (fun v h=>some (v,h))=(opC P H call e.eval o h (fun v _=>some v)).bind fun v=>some (v,h):=by rw [opC_ext ha (K':=fun v _=>some (v,h)) (fun _=>rfl),opC_bind]; rfl
 have e2:opC P H call e.eval o h' (fun v h=>some (v,h))=(opC P H call e.eval o h' (fun v _=>some v)).bind fun v=>some (v,h'):=by rw [opC_ext ha (K':=fun v _=>some (v,h')) (fun _=>rfl),opC_bind]; rfl
 rw [e1] at hk
 obtain ⟨u,hu,hq2⟩:=Option.bind_eq_some_iff.1 hk
 have e3:opC P H call e.eval o h' (fun v _=>some v)=opC P H call e.eval o h (fun v _=>some v):=by
  unfold lenB at hl
  unfold lenFree at hf
  split at hl
  ·rename_i args ts heq
   rw [heq] at hf
   unfold opC
   rw [heq]
   dsimp only at hf ⊢
   refine lenC_free (fun r hr=> ?_) h' h _
   rw [hr] at hf
   cases hf
  ·cases hl
 rw [e2,e3,hu]
 cases hq2
 rfl
theorem nActs_succ(ops:Array Oper)(i:Nat) :nActs ops (i+1)=nActs ops i+(if ((ops[i]?).map actsB).getD false=true then 1 else 0):=by
 unfold nActs
 rw [List.range_succ,List.filter_append,List.length_append]
 cases hb:((ops[i]?).map actsB).getD false <;>simp [hb]
theorem opC_freeK{R:Type}{e:Env}{o:Oper}(hl:lenB o=true)(hf:lenFree o e.eval=true)(K:Value→Option R) :opC P H call e.eval o h (fun v _=>K v)=opC P H call e.eval o h' (fun v _=>K v):=by
 unfold lenB at hl
 unfold lenFree at hf
 split at hl
 ·rename_i args ts heq
  rw [heq] at hf
  unfold opC
  rw [heq]
  dsimp only at hf ⊢
  refine lenC_free (fun r hr=> ?_) h h' _
  rw [hr] at hf
  cases hf
 ·cases hl
theorem draw_plain{R:Type}{ops:Array Oper}(hp:plainDraw ops=true)(K:Env→Hp→Option R) :∀(l:List Oper) (i:Nat) (e:Env) (h:Hp) (hs:List Hp) (rs:List (Nat×Nat)),ops.toList.drop i=l→hs.length=nActs ops i+1→hs.getD (nActs ops i) h=h→
  drawC P H call ops l i e h hs rs K=opsL P H call ops l e h K
 | [],i,e,h,hs,rs,_,_,_=>by rw [drawC,opsL]
 | o::rest,i,e,h,hs,rs,hl,hn,hg=>by
  have hi:i<ops.size:=by
   rcases Nat.lt_or_ge i ops.size with h | h
   ·exact h
   ·rw [List.drop_of_length_le (by simpa using h)] at hl; cases hl
  have hd:ops.toList[i]? =some o:=by
   have:(ops.toList.drop i)[0]? =some o:=by rw [hl]; rfl
   rw [List.getElem?_drop] at this
   exact this
  have ho:ops[i]? =some o:=by rw [←Array.getElem?_toList]; exact hd
  have hrest:ops.toList.drop (i+1)=rest:=by
   rw [←List.drop_drop,hl]
   rfl
  have hs1:=nActs_succ ops i
  rw [ho] at hs1
  have hpl:=List.all_eq_true.1 hp i (List.mem_range.2 hi)
  rw [ho] at hpl
  dsimp only at hpl
  rw [drawC,opsL]
  congr 1
  ·funext e2
   cases hc:cls o with
   | pure=>
    have ha:actsB o=false:=by unfold actsB; rw [hc]
    have hb:lenB o=false:=by
     cases hb:lenB o with
     | false=>rfl
     | true=>
      unfold lenB at hb
      split at hb
      ·rename_i heq; simp [cls,heq] at hc
      ·cases hb
    simp only [Option.map_some,Option.getD_some,ha,Bool.false_eq_true,if_false,Nat.add_zero] at hs1
    dsimp only
    rw [needP_true (fun h=>by rw [hb] at h; cases h)]
    refine opC_ext ha fun v=> ?_
    exact draw_plain hp K rest (i+1) _ _ hs rs hrest (by rw [hs1]; exact hn) (by rw [hs1]; exact hg)
   | reads=>
    have ha:actsB o=false:=by unfold actsB; rw [hc]
    simp only [Option.map_some,Option.getD_some,ha,Bool.false_eq_true,if_false,Nat.add_zero] at hs1
    rw [hc] at hpl
    dsimp only at hpl
    dsimp only
    have hK:∀v,drawC P H call ops rest (i+1) (e2.put o.dst v) h hs (noteR o i e2 rs) K=opsL P H call ops rest (e2.put o.dst v) h K:=fun v=>draw_plain hp K rest (i+1) _ _ hs _ hrest (by rw [hs1]; exact hn) (by rw [hs1]; exact hg)
    by_cases hf:lenB o=true→lenFree o e2.eval=true
    ·rw [needP_true hf,needP_true hf]
     cases hb:lenB o with
     | true=>
      rw [opC_freeK (h':=h) hb (hf hb)]
      exact opC_ext ha fun v=>hK v
     | false=>
      rw [hb,Bool.false_or,beq_iff_eq] at hpl
      rw [hpl,hg]
      exact opC_ext ha fun v=>hK v
    ·unfold needP
     rw [if_neg hf,if_neg hf]
   | acts=>
    have ha:actsB o=true:=by unfold actsB; rw [hc]
    have hb:lenB o=false:=by
     cases hb:lenB o with
     | false=>rfl
     | true=>
      unfold lenB at hb
      split at hb
      ·rename_i heq; simp [cls,heq] at hc
      ·cases hb
    simp only [Option.map_some,Option.getD_some,ha,if_true] at hs1
    rw [hc] at hpl
    dsimp only at hpl
    rw [Bool.not_eq_true'] at hpl
    dsimp only
    rw [needP_true (fun h=>by rw [hb] at h; cases h)]
    rw [hpl,cond_false]
    congr 1
    funext v h'
    exact draw_plain hp K rest (i+1) _ _ _ rs hrest (by rw [List.length_append,hn,hs1]; rfl) (by rw [hs1,←hn]; simp)
  ·funext e2
   cases ha:actsB o with
   | false=>
    simp only [Option.map_some,Option.getD_some,ha,Bool.false_eq_true,if_false,Nat.add_zero] at hs1
    rw [cond_false]
    exact draw_plain hp K rest (i+1) _ _ hs rs hrest (by rw [hs1]; exact hn) (by rw [hs1]; exact hg)
   | true=>
    simp only [Option.map_some,Option.getD_some,ha,if_true] at hs1
    rw [cond_true]
    exact draw_plain hp K rest (i+1) _ _ _ rs hrest (by rw [List.length_append,hn,hs1]; rfl) (by rw [hs1,←hn]; simp)
end
end Go.Proofs.Ytpfploolkmcalaa.AM
end
section
namespace Go.Proofs.Ytpfploolkmcalaa.AM
open Go Go.RowKit
set_option linter.unusedSectionVars false
set_option linter.unusedSimpArgs false
set_option linter.unusedVariables false
def CallStep(call:FuncId→List Value→Hp→Option (Value×Hp)) :Prop:=∀g as h v h',call g as h=some (v,h')→HpStep h h'
section
variable {h h':Hp} {P:Program} {H:Hint} {call:FuncId→List Value→Hp→Option (Value×Hp)}
theorem le_alloc(hw:HpWf h)(cs:List Value)(sz:Nat)(par:List Nat) :HpLe h (h.alloc cs sz par):=
 ⟨rfl,rfl,fun r b hb=>⟨b,by rw [alloc_new,if_neg (by have:=hw.new r b hb; omega)]; exact hb,rfl,rfl⟩,fun _ _ h=>h⟩
theorem le_allocMap(hw:HpWf h) :HpLe h h.allocMap:=
 ⟨rfl,rfl,fun r b hb=>⟨b,hb,rfl,rfl⟩,fun r es hm=>by
  have:=hw.maps r es hm
  unfold Hp.allocMap
  have:(r==h.next)=false:=by simp; omega
  simp only [this,cond_false]
  exact hm⟩
theorem stC_step{R:Type}{r:R}{a:Addr}{vs:List Value}{K:Hp→Option R}(hk:h.stC a vs K=some r) :∃h2,K h2=some r∧HpStep h h2:=by
 unfold Hp.stC at hk
 split at hk
 ·rename_i b hb
  obtain ⟨_,hk1⟩:=needC_some hk
  exact ⟨_,hk1,step_write _ _ _ b hb _ _⟩
 ·cases hk
theorem prepG_step(s:Nat)(a:Option Addr)(n m:Nat) :HpStep h (prepG h s a n m):=by
 unfold prepG
 cases decide (m=0) with
 | true=>exact HpStep.refl _
 | false=>
  simp only [cond_false]
  cases a with
  | none=>exact HpStep.refl _
  | some ad=>
   dsimp only
   cases hb:h.new ad.block with
   | none=>exact HpStep.refl _
   | some b=>
    dsimp only
    cases (b.rw &&decide (ad.off+n*s<b.cells.length)) with
    | true=>exact step_write _ _ _ b hb _ _
    | false=>exact HpStep.refl _
theorem growC0_step{R:Type}{r:R}{s bytes:Nat}{a:Option Addr}{n c m:Nat}{vs:List Value}{K:Value→Hp→Option R}(hk:growC0 h s bytes a n c m vs K=some r) :∃v h2,K v h2=some r∧HpStep h h2:=by
 unfold growC0 growT0 at hk
 cases hm:decide (m=0) <;>rw [hm] at hk <;>simp only [cond_true,cond_false] at hk
 ·obtain ⟨_,hk1⟩:=needC_some hk
  split at hk1
  ·obtain ⟨_,hk2⟩:=needC_some hk1
   exact ⟨_,_,hk2,step_alloc _ _ _ _⟩
  ·split at hk1
   ·obtain ⟨_,hk2⟩:=needC_some hk1
    exact ⟨_,_,hk2,(step_seal _ _).trans (step_alloc _ _ _ _)⟩
   ·obtain ⟨_,hk2⟩:=needC_some hk1
    split at hk2
    ·exact ⟨_,_,hk2,step_alloc _ _ _ _⟩
    ·cases hk2
 ·obtain ⟨_,hk1⟩:=needC_some hk
  exact ⟨_,_,hk1,HpStep.refl h⟩
theorem growC_step{R:Type}{r:R}{s bytes:Nat}{a:Option Addr}{n c m:Nat}{vs:List Value}{K:Value→Hp→Option R}(hk:growC h s bytes a n c m vs K=some r) :∃v h2,K v h2=some r∧HpStep h h2:=by
 obtain ⟨v,h2,h3,h4⟩:=growC0_step (h:=prepG h s a n m) hk
 exact ⟨v,h2,h3,(prepG_step s a n m).trans h4⟩
theorem srcC_some{R:Type}{r:R}{s n:Nat}{x:Value}{K:List Value→Option R}(hk:srcC h s n x K=some r) :∃vs,K vs=some r:=by
 unfold srcC at hk
 split at hk
 ·split at hk
  ·exact ⟨_,hk⟩
  ·cases hk
 ·exact ⟨_,hk⟩
 ·obtain ⟨_,hk1⟩:=needC_some hk
  exact ⟨_,hk1⟩
 ·cases hk
theorem appendC_step{R:Type}{r:R}{ts:List TypeId}{as:List Value}{K:Value→Hp→Option R}(hk:appendC P ts as h K=some r) :∃v h2,K v h2=some r∧HpStep h h2:=by
 unfold appendC at hk
 split at hk
 ·obtain ⟨_,_,hk⟩:=elemC_some hk
  obtain ⟨_,_,hk⟩:=sizeC_some hk
  obtain ⟨_,_,_,_,_,hk⟩:=zeroC_some hk
  obtain ⟨_,hk⟩:=needC_some hk
  split at hk
  ·split at hk
   ·obtain ⟨_,_,_,_,hk⟩:=asSliceC_some hk
    obtain ⟨_,_,_,_,hk⟩:=asSliceC_some hk
    obtain ⟨_,hk⟩:=srcC_some hk
    exact growC_step hk
   ·obtain ⟨_,_,_,_,hk⟩:=asSliceC_some hk
    obtain ⟨_,_,hk⟩:=asStrC_some hk
    obtain ⟨_,hk⟩:=srcC_some hk
    exact growC_step hk
   ·cases hk
  ·cases hk
 ·cases hk
theorem putC_step{R:Type}{r:R}{s:Nat}{a:Option Addr}{k:Nat}{vs:List Value}{K:Value→Hp→Option R}(hk:putC h s a k vs K=some r) :∃v h2,K v h2=some r∧HpStep h h2:=by
 unfold putC putT at hk
 cases hm:decide (k=0) <;>rw [hm] at hk <;>simp only [cond_true,cond_false] at hk
 ·split at hk
  ·obtain ⟨_,hk⟩:=needC_some hk
   obtain ⟨h2,a,b⟩:=stC_step hk
   exact ⟨_,h2,a,b⟩
  ·cases hk
 ·exact ⟨_,_,hk,HpStep.refl h⟩
theorem copyC_step{R:Type}{r:R}{ts:List TypeId}{as:List Value}{K:Value→Hp→Option R}(hk:copyC P ts as h K=some r) :∃v h2,K v h2=some r∧HpStep h h2:=by
 unfold copyC at hk
 split at hk
 ·obtain ⟨_,_,hk⟩:=elemC_some hk
  obtain ⟨_,_,hk⟩:=sizeC_some hk
  obtain ⟨_,_,_,_,hk⟩:=asSliceC_some hk
  split at hk
  ·obtain ⟨_,_,_,_,hk⟩:=asSliceC_some hk
   obtain ⟨_,hk⟩:=srcC_some hk
   exact putC_step hk
  ·obtain ⟨_,_,hk⟩:=asStrC_some hk
   obtain ⟨_,hk⟩:=srcC_some hk
   exact putC_step hk
  ·cases hk
 ·cases hk
theorem mapPutC_step{R:Type}{r:R}{t:TypeId}{m key v:Value}{K:Hp→Option R}(hk:mapPutC P t m key v h K=some r) :∃h2,K h2=some r∧HpStep h h2:=by
 unfold mapPutC at hk
 obtain ⟨_,_,_,hk⟩:=mapTypeC_some hk
 obtain ⟨_,hk⟩:=needC_some hk
 obtain ⟨_,_,hk⟩:=asMapC_some hk
 split at hk
 ·cases hk
 ·split at hk
  ·rename_i es hes
   split at hk
   ·exact ⟨_,hk,step_putMap _ _ _ es hes⟩
   ·cases hk
  ·cases hk
theorem mapDropC_step{R:Type}{r:R}{ts:List TypeId}{as:List Value}{K:Value→Hp→Option R}(hk:mapDropC P ts as h K=some r) :∃v h2,K v h2=some r∧HpStep h h2:=by
 unfold mapDropC at hk
 split at hk
 ·obtain ⟨_,_,_,hk⟩:=mapTypeC_some hk
  obtain ⟨_,hk⟩:=needC_some hk
  obtain ⟨_,_,hk⟩:=asMapC_some hk
  split at hk
  ·exact ⟨_,_,hk,HpStep.refl h⟩
  ·split at hk
   ·rename_i es hes
    split at hk
    ·exact ⟨_,_,hk,step_putMap _ _ _ es hes⟩
    ·cases hk
   ·cases hk
 ·cases hk
theorem callC_step(hcs:CallStep call){f:Value}{as:List Value}{t:TypeId}{v:Value}(hk:callC P call f as t h (fun v h=>some (v,h))=some (v,h')) :HpStep h h':=by
 unfold callC at hk
 split at hk
 ·split at hk
  ·obtain ⟨q,h1,h2⟩:=Option.bind_eq_some_iff.1 hk
   obtain ⟨v0,hh⟩:=q
   have:some (v0,hh)=some (v,h'):=by
    split at h2
    ·exact like3C_some (K:=fun v=>some (v,hh)) h2
    ·exact h2
   cases this
   exact hcs _ _ _ _ _ h1
  ·cases hk
 ·cases hk
theorem opC_step(hcs:CallStep call){ev:Operand→Value}{o:Oper}{v:Value}(hk:opC P H call ev o h (fun v h=>some (v,h))=some (v,h')) :HpStep h h'∧(makesB o=true→wildB o=false→HpWf h→HpLe h h'):=by
 cases hc:actsB o with
 | false=>
  have:=opC_quiet hc hk
  subst this
  exact ⟨HpStep.refl _,fun _ _ _=>HpLe.refl _⟩
 | true=>
  unfold opC at hk
  split at hk <;>first
   | (rename_i heq; simp [actsB,cls,heq] at hc; done)
   | skip
  ·-- alloc
   obtain ⟨_,_,_,_,_,hk⟩:=zeroC_some hk
   cases hk
   exact ⟨step_alloc _ _ _ _,fun _ _ hw=>le_alloc hw _ _ _⟩
  ·-- box
   obtain ⟨_,hk⟩:=needC_some hk
   cases hk
   exact ⟨step_alloc _ _ _ _,fun _ _ hw=>le_alloc hw _ _ _⟩
  ·-- buildSlice
   obtain ⟨_,_,hk⟩:=elemC_some hk
   obtain ⟨_,_,hk⟩:=sizeC_some hk
   obtain ⟨_,hk⟩:=needC_some hk
   obtain ⟨_,_,_,_,_,hk⟩:=zeroC_some hk
   obtain ⟨_,hk⟩:=needC_some hk
   split at hk
   ·cases hk
    exact ⟨step_alloc _ _ _ _,fun _ _ hw=>le_alloc hw _ _ _⟩
   ·cases hk
  ·-- store
   rename_i heq
   obtain ⟨_,_,hk⟩:=asPtrC_some hk
   split at hk
   ·obtain ⟨_,_,hk⟩:=sizeC_some hk
    obtain ⟨_,hk⟩:=needC_some hk
    obtain ⟨h2,e,s⟩:=stC_step hk
    cases e
    exact ⟨s,fun _ hb=>by simp [wildB,heq] at hb⟩
   ·cases hk
  ·-- makeMap
   obtain ⟨_,_,_,hk⟩:=mapTypeC_some hk
   cases hk
   exact ⟨step_allocMap _,fun _ _ hw=>le_allocMap hw⟩
  ·-- makeSlice
   obtain ⟨_,_,hk⟩:=elemC_some hk
   split at hk
   ·obtain ⟨_,_,_,_,_,hk⟩:=zeroC_some hk
    split at hk
    ·split at hk
     ·obtain ⟨_,hk⟩:=needC_some hk
      cases hk
      exact ⟨step_alloc _ _ _ _,fun _ _ hw=>le_alloc hw _ _ _⟩
     ·cases hk
    ·cases hk
   ·cases hk
  ·-- mapUpdate
   rename_i heq
   obtain ⟨h2,e,s⟩:=mapPutC_step hk
   cases e
   exact ⟨s,fun hm=>by simp [makesB,heq] at hm⟩
  ·-- builtins
   rename_i b args ts heq
   cases b <;>first
    | (simp [actsB,cls,heq] at hc; done)
    | (cases hk; done)
    | skip
   ·obtain ⟨_,h2,e,s⟩:=appendC_step hk
    cases e
    exact ⟨s,fun _ hb=>by simp [wildB,heq] at hb⟩
   ·obtain ⟨_,h2,e,s⟩:=copyC_step hk
    cases e
    exact ⟨s,fun hm=>by simp [makesB,heq] at hm⟩
   ·obtain ⟨_,h2,e,s⟩:=mapDropC_step hk
    cases e
    exact ⟨s,fun hm=>by simp [makesB,heq] at hm⟩
  ·-- call
   rename_i heq
   exact ⟨callC_step hcs hk,fun _ hb=>by simp [wildB,heq] at hb⟩
  ·-- insert
   rename_i heq
   obtain ⟨h2,e,s⟩:=mapPutC_step hk
   cases e
   exact ⟨s,fun hm=>by simp [makesB,heq] at hm⟩
  ·cases hk
theorem mk_form{ev:Operand→Value}{o:Oper}{v:Value}(hn:newO o=true)(hk:opC P H call ev o h (fun v h=>some (v,h))=some (v,h')) :∃cs sz,h'=h.alloc cs sz []:=by
 unfold opC at hk
 split at hk <;>first
  | (rename_i heq; simp [newO,heq] at hn; done)
  | skip
 ·obtain ⟨_,_,_,_,_,hk⟩:=zeroC_some hk
  cases hk
  exact ⟨_,_,rfl⟩
 ·obtain ⟨_,hk⟩:=needC_some hk
  cases hk
  exact ⟨_,_,rfl⟩
 ·obtain ⟨_,_,hk⟩:=elemC_some hk
  obtain ⟨_,_,hk⟩:=sizeC_some hk
  obtain ⟨_,hk⟩:=needC_some hk
  obtain ⟨_,_,_,_,_,hk⟩:=zeroC_some hk
  obtain ⟨_,hk⟩:=needC_some hk
  split at hk
  ·cases hk
   exact ⟨_,_,rfl⟩
  ·cases hk
 ·obtain ⟨_,_,hk⟩:=elemC_some hk
  split at hk
  ·obtain ⟨_,_,_,_,_,hk⟩:=zeroC_some hk
   split at hk
   ·split at hk
    ·obtain ⟨_,hk⟩:=needC_some hk
     cases hk
     exact ⟨_,_,rfl⟩
    ·cases hk
   ·cases hk
  ·cases hk
theorem new_not_wild{o:Oper}(h:newO o=true) :wildB o=false∧actsB o=true∧callB o=false:=by
 unfold newO at h
 unfold wildB actsB cls callB
 split at h <;>first | (cases h; done) | (rename_i heq; simp [heq])
theorem le_of_low(hw:HpWf h)(s:HpStep (h.relow h.next) h')(hl:h.next≤h'.low)(n:Nat) :HpLe h (h'.relow n):=
 ⟨s.base,s.old,fun r b hb=>s.new r b (hw.new r b hb) (Nat.lt_of_lt_of_le (hw.new r b hb) hl) hb,fun r es hm=>s.maps r es (hw.maps r es hm) (Nat.lt_of_lt_of_le (hw.maps r es hm) hl) hm⟩
theorem relow_step(s:HpStep (h.relow h.next) h') :HpStep h (h'.relow (min h.low h'.low)):=
 ⟨s.base,s.hole,s.old,s.next,Nat.min_le_left _ _,fun r b h1 h2 hb=>s.new r b h1 (Nat.lt_of_lt_of_le h2 (Nat.min_le_right _ _)) hb,fun r es h1 h2 hm=>s.maps r es h1 (Nat.lt_of_lt_of_le h2 (Nat.min_le_right _ _)) hm,fun hw=>⟨(s.wf ⟨hw.new,hw.maps⟩).new,(s.wf ⟨hw.new,hw.maps⟩).maps⟩⟩
theorem opsC_step(hcs:CallStep call){R:Type}{r:R}{ops:Array Oper}{K:Env→Hp→Option R} :∀(l:List Oper) (e:Env) (h:Hp),opsC P H call ops l e h K=some r→∃e' h',K e' h'=some r∧HpStep h h'
 | [],e,h,hk=>⟨e,h,hk,HpStep.refl h⟩
 | o::rest,e,h,hk=>by
  rw [opsC] at hk
  rcases guardC_cases hk with ⟨e',he,_⟩ | ⟨e',he,_⟩
  ·rw [opC_eq] at he
   obtain ⟨q,hq,hk2⟩:=Option.bind_eq_some_iff.1 he
   obtain ⟨v,hh⟩:=q
   obtain ⟨e2,h2,a,b⟩:=opsC_step hcs rest _ _ hk2
   exact ⟨e2,h2,a,(opC_step hcs hq).1.trans b⟩
  ·exact opsC_step hcs rest _ _ he
theorem drawC_step(hcs:CallStep call){R:Type}{r:R}{ops:Array Oper}{K:Env→Hp→Option R} :∀(l:List Oper) (i:Nat) (e:Env) (h:Hp) (hs:List Hp) (rs:List (Nat×Nat)),drawC P H call ops l i e h hs rs K=some r→∃e' h',K e' h'=some r∧HpStep h h'
 | [],i,e,h,hs,rs,hk=>⟨e,h,hk,HpStep.refl h⟩
 | o::rest,i,e,h,hs,rs,hk=>by
  rw [drawC] at hk
  rcases guardC_cases hk with ⟨e',he,_⟩ | ⟨e',he,_⟩
  ·cases hcl:cls o <;>simp only [hcl] at he
   ·rw [opC_eq] at he
    obtain ⟨q,hq,hk2⟩:=Option.bind_eq_some_iff.1 he
    exact drawC_step hcs rest _ _ _ _ _ hk2
   ·obtain ⟨_,he⟩:=needP_some he
    rw [opC_eq] at he
    obtain ⟨q,hq,hk2⟩:=Option.bind_eq_some_iff.1 he
    exact drawC_step hcs rest _ _ _ _ _ hk2
   ·cases hbr:besideRead ops i <;>rw [hbr] at he <;>simp only [cond_true,cond_false] at he
    ·rw [opC_eq] at he
     obtain ⟨q,hq,hk2⟩:=Option.bind_eq_some_iff.1 he
     obtain ⟨v,hh⟩:=q
     obtain ⟨e2,h2,a,b⟩:=drawC_step hcs rest _ _ _ _ _ hk2
     exact ⟨e2,h2,a,(opC_step hcs hq).1.trans b⟩
    ·rw [opC_eq] at he
     obtain ⟨q,hq,hk2⟩:=Option.bind_eq_some_iff.1 he
     obtain ⟨v,hh⟩:=q
     obtain ⟨hl,hk3⟩:=needP_some hk2
     obtain ⟨e2,h2,a,b⟩:=drawC_step hcs rest _ _ _ _ _ hk3
     exact ⟨e2,h2,a,(relow_step (opC_step hcs hq).1).trans b⟩
  ·exact drawC_step hcs rest _ _ _ _ _ he
theorem loopN_step{D:Env→Hp→Option Out}{m:Env→Env}(hD:∀e h r,D e h=some r→HpStep h r.2.2) :∀(n:Nat) (e:Env) (h:Hp) (r:Out),loopN D m n e h=some r→HpStep h r.2.2
 | 0,_,_,_,hv=>by cases hv
 | n+1,e,h,v,hv=>by
  rw [loopN] at hv
  obtain ⟨q,hq,hk⟩:=Option.bind_eq_some_iff.1 hv
  obtain ⟨ex,e',h'⟩:=q
  have s1:=hD _ _ _ hq
  cases ex with
  | normal=>exact s1.trans (loopN_step hD n e' h' v hk)
  | exit i=>cases hk; exact s1
  | ret=>cases hk; exact s1
theorem codeC_step(hcs:CallStep call)(f:FuncId)(nt:Nat)(c:Code) :∀{R:Type} {r:R} {e:Env} {h:Hp} {K:Ex→Env→Hp→Option R},codeC P H call f nt c R e h K=some r→∃ex e' h',K ex e' h'=some r∧HpStep h h':=by
 induction c with
 | skip=>intro R r e h K hk; exact ⟨_,_,_,hk,HpStep.refl h⟩
 | label l=>intro R r e h K hk; exact ⟨_,_,_,hk,HpStep.refl h⟩
 | exit i=>intro R r e h K hk; exact ⟨_,_,_,hk,HpStep.refl h⟩
 | ret=>intro R r e h K hk; exact ⟨_,_,_,hk,HpStep.refl h⟩
 | region id ops draw=>
  intro R r e h K hk
  unfold codeC at hk
  cases hd:dstsOk nt ops <;>rw [hd] at hk <;>simp only [cond_true,cond_false] at hk
  ·cases hk
  cases draw <;>simp only [cond_true,cond_false] at hk
  ·obtain ⟨e',h',a,b⟩:=opsC_step hcs _ _ _ hk
   exact ⟨_,_,_,a,b⟩
  ·cases ho:okDraw ops <;>rw [ho] at hk <;>simp only [cond_true,cond_false] at hk
   ·cases hk
   obtain ⟨e',h',a,b⟩:=drawC_step hcs _ _ _ _ _ _ hk
   exact ⟨_,_,_,a,b⟩
 | seq a b iha ihb=>
  intro R r e h K hk
  unfold codeC at hk
  obtain ⟨ex,e1,h1,k1,s1⟩:=iha hk
  cases ex with
  | normal=>
   obtain ⟨ex2,e2,h2,k2,s2⟩:=ihb k1
   exact ⟨ex2,e2,h2,k2,s1.trans s2⟩
  | exit i=>exact ⟨_,_,_,k1,s1⟩
  | ret=>exact ⟨_,_,_,k1,s1⟩
 | cond x a b iha ihb=>
  intro R r e h K hk
  unfold codeC at hk
  split at hk
  ·split at hk
   ·split at hk
    ·exact iha hk
    ·exact ihb hk
   ·cases hk
  ·split at hk
   ·exact iha hk
   ·exact ihb hk
  ·cases hk
 | block id b ih=>
  intro R r e h K hk
  unfold codeC at hk
  obtain ⟨ex,e1,h1,k1,s1⟩:=ih hk
  cases ex with
  | normal=>exact ⟨_,_,_,k1,s1⟩
  | exit i=>
   simp only [blockK] at k1
   cases hi:i==id <;>rw [hi] at k1
   ·exact ⟨_,_,_,k1,s1⟩
   ·exact ⟨_,_,_,k1,s1⟩
  | ret=>exact ⟨_,_,_,k1,s1⟩
 | loop b ih=>
  intro R r e h K hk
  unfold codeC at hk
  obtain ⟨q,hq,hk2⟩:=Option.bind_eq_some_iff.1 hk
  obtain ⟨n,hn⟩:=lfp_some hq
  refine ⟨_,_,_,hk2,loopN_step (fun e h r hr=> ?_) n e h q hn⟩
  obtain ⟨ex,e1,h1,k1,s1⟩:=ih hr
  cases k1
  exact s1
 | rangeFunc=>intro R r e h K hk; cases hk
 | scope b ih=>
  intro R r e h K hk
  unfold codeC at hk
  exact ih hk
 | goto=>intro R r e h K hk; cases hk
 | refuse=>intro R r e h K hk; cases hk
theorem resK_heap{fn:Func}{ex:Ex}{e:Env}{v:Value}(hk:resK P fn ex e h=some (v,h')) :h'=h:=by
 have gen:∀(rs:List ResultVar) (K:List Value→Option (Value×Hp)),(∀vs,K vs=some (v,h')→h'=h)→resC P h e rs K=some (v,h')→h'=h:=by
  intro rs
  induction rs with
  | nil=>intro K hK hr; exact hK _ hr
  | cons x rs ih=>
   intro K hK hr
   cases x with
   | tmp t=>exact ih _ (fun vs=>hK _) hr
   | cell a t=>
    rw [resC] at hr
    obtain ⟨p,_,hr⟩:=asPtrC_some hr
    split at hr
    ·rename_i ad _
     have e1:=loadC_bind (fun u=>resC P h e rs fun vs=>K (u::vs)) P h t ad some
     simp only [Option.bind_some] at e1
     rw [←e1] at hr
     obtain ⟨u,_,hr2⟩:=Option.bind_eq_some_iff.1 hr
     exact ih _ (fun vs=>hK _) hr2
    ·cases hr
 cases ex with
 | exit i=>cases hk
 | normal=>exact gen _ _ (fun vs hv=>by split at hv <;>(cases hv; rfl)) hk
 | ret=>exact gen _ _ (fun vs hv=>by split at hv <;>(cases hv; rfl)) hk
theorem aN_step(P:Program)(H:Hint) :∀(k:Nat),CallStep (aN P H k)
 | 0=>fun _ _ _ _ _ hk=>by cases hk
 | k+1=>fun g as h v h' hk=>by
  unfold aN at hk
  cases ho:H.isOv g <;>rw [ho] at hk <;>simp only [cond_true,cond_false] at hk
  rotate_left
  ·split at hk
   ·cases hk; exact HpStep.refl _
   ·cases hk
  have hk':funC P H (aN P H k) g as h=some (v,h'):=hk
  unfold funC at hk'
  split at hk'
  ·split at hk'
   ·rename_i fn _ _ c _
    cases hn : fn.name == "runtime.NumGoroutine" <;> rw [hn] at hk' <;> simp only [cond_true, cond_false] at hk'
    ·obtain ⟨ex,e1,h1,k1,s1⟩:=codeC_step (aN_step P H k) _ _ _ hk'
     have:=resK_heap k1
     subst this
     exact s1
    ·cases hk'
   ·cases hk'
  ·cases hk'
end
end Go.Proofs.Ytpfploolkmcalaa.AM
end
section
namespace Go.Proofs.Ytpfploolkmcalaa.AM
open Go Go.RowKit
set_option linter.unusedSectionVars false
set_option linter.unusedSimpArgs false
set_option linter.unusedVariables false
/-! What stands before what. -/
def stepB(acc:Array Nat)(o:Oper) :Array Nat:=acc.push (o.after.foldl (fun s e=>if Region.binds .any e then s ||| 2^e.on ||| acc.getD e.on 0 else s) 0)
theorem before_eq(ops:Array Oper) :Region.before ops=ops.toList.foldl stepB #[]:=by
 unfold Region.before
 rw [←Array.foldl_toList]
 rfl
theorem foldB_size :∀(l:List Oper) (acc:Array Nat),(l.foldl stepB acc).size=acc.size+l.length
 | [],acc=>rfl
 | o::l,acc=>by rw [List.foldl_cons,foldB_size l]; simp [stepB]; omega
theorem foldB_keep :∀(l:List Oper) (acc:Array Nat) (k:Nat),k<acc.size→(l.foldl stepB acc)[k]? =acc[k]?
 | [],acc,k,_=>rfl
 | o::l,acc,k,hk=>by
  rw [List.foldl_cons,foldB_keep l _ k (by simp [stepB]; omega)]
  simp only [stepB,Array.getElem?_push]
  rw [if_neg (by omega)]
theorem foldl_bits(acc:Array Nat)(q:Nat) :∀(l:List Edge) (s:Nat),(l.foldl (fun s e=>if Region.binds .any e then s ||| 2^e.on ||| acc.getD e.on 0 else s) s).testBit q=true→
  s.testBit q=true∨∃e∈l,Region.binds .any e=true∧(q=e.on∨(acc.getD e.on 0).testBit q=true)
 | [],s,h=> .inl h
 | e::l,s,h=>by
  rw [List.foldl_cons] at h
  rcases foldl_bits acc q l _ h with h1 | ⟨e',h1,h2,h3⟩
  ·split at h1
   ·rename_i hb
    simp only [Nat.testBit_or,Bool.or_eq_true] at h1
    rcases h1 with (h1 | h1) | h1
    ·exact .inl h1
    ·refine .inr ⟨e,by simp,hb, .inl ?_⟩
     rw [Nat.testBit_two_pow] at h1
     exact (of_decide_eq_true h1).symm
    ·exact .inr ⟨e,by simp,hb, .inr h1⟩
   ·exact .inl h1
  ·exact .inr ⟨e',by simp [h1],h2,h3⟩
theorem before_edge(ops:Array Oper){j q:Nat}{o:Oper}(ho:ops[j]? =some o)(hb:((Region.before ops).getD j 0).testBit q=true) :
  ∃e∈o.after,Region.binds .any e=true∧(q=e.on∨((Region.before ops).getD e.on 0).testBit q=true):=by
 have hj:j<ops.toList.length:=by
  rcases Nat.lt_or_ge j ops.size with h | h
  ·simpa using h
  ·rw [Array.getElem?_eq_none h] at ho; cases ho
 have hsplit:ops.toList=ops.toList.take j++o::ops.toList.drop (j+1):=by
  have:ops.toList[j]? =some o:=by simpa using ho
  rw [List.getElem?_eq_some_iff] at this
  obtain ⟨h1,h2⟩:=this
  rw [←h2,List.getElem_cons_drop,List.take_append_drop]
 have hE:Region.before ops=(ops.toList.drop (j+1)).foldl stepB (stepB ((ops.toList.take j).foldl stepB #[]) o):=by
  rw [before_eq]
  conv=>lhs; rw [hsplit]
  rw [List.foldl_append,List.foldl_cons]
 generalize hacc:(ops.toList.take j).foldl stepB #[]=acc at hE
 have hsz:acc.size=j:=by
  rw [←hacc,foldB_size]
  simp only [List.length_take]
  have:(#[]:Array Nat).size=0:=rfl
  omega
 have hget:∀k,k<j→(Region.before ops).getD k 0=acc.getD k 0:=by
  intro k hk
  rw [hE,Array.getD_eq_getD_getElem?,foldB_keep _ _ k (by simp [stepB]; omega),Array.getD_eq_getD_getElem?]
  simp only [stepB,Array.getElem?_push]
  rw [if_neg (by omega)]
 have hat:(Region.before ops).getD j 0=o.after.foldl (fun s e=>if Region.binds .any e then s ||| 2^e.on ||| acc.getD e.on 0 else s) 0:=by
  rw [hE,Array.getD_eq_getD_getElem?,foldB_keep _ _ j (by simp [stepB]; omega)]
  simp only [stepB,Array.getElem?_push,hsz]
  simp
 rw [hat,←Array.foldl_toList] at hb
 rcases foldl_bits acc q _ _ hb with h1 | ⟨e,h1,h2,h3⟩
 ·simp at h1
 ·refine ⟨e,by simpa using h1,h2, ?_⟩
  rcases h3 with h3 | h3
  ·exact .inl h3
  ·by_cases hk:e.on<j
   ·exact .inr (by rw [hget _ hk]; exact h3)
   ·have:acc.getD e.on 0=0:=by
     rw [Array.getD_eq_getD_getElem?,Array.getElem?_eq_none (by omega)]
     rfl
    rw [this] at h3
    simp at h3
def Closed(ops:Array Oper)(S:Nat→Bool) :Prop:=∀j o,ops[j]? =some o→S j=true→∀e∈o.after,Region.binds .any e=true→S e.on=true
theorem closed_before{ops:Array Oper}{S:Nat→Bool}(hS:Closed ops S)(hlt:∀j o e,ops[j]? =some o→e∈o.after→Region.binds .any e=true→e.on<j) :
  ∀(j:Nat) (o:Oper),ops[j]? =some o→(∀e∈o.after,Region.binds .any e=true→S e.on=true)→∀q,((Region.before ops).getD j 0).testBit q=true→S q=true:=by
 intro j
 induction j using Nat.strongRecOn with
 | _ j ih=>
  intro o ho hp q hq
  obtain ⟨e,he,hb,h⟩:=before_edge ops ho hq
  rcases h with rfl | h
  ·exact hp e he hb
  ·have hej:=hlt j o e ho he hb
   cases h2:ops[e.on]? with
   | none=>
    have:(Region.before ops).getD e.on 0=0:=by
     rw [Array.getD_eq_getD_getElem?,Array.getElem?_eq_none]
     ·rfl
     ·rw [before_eq,foldB_size]
      have:=Array.getElem?_eq_none_iff.1 h2
      simp
      omega
    rw [this] at h
    simp at h
   | some o2=>exact ih e.on hej o2 h2 (fun e2 he2 hb2=>hS e.on o2 h2 (hp e he hb) e2 he2 hb2) q h
structure DrawOK (ops:Array Oper):Prop where
 lt:∀j o e,ops[j]? =some o→e∈o.after→Region.binds .any e=true→e.on<j
 pair:∀i j x y,i<j→ops[i]? =some x→ops[j]? =some y→((Region.before ops).getD j 0).testBit i=true∨
  (x.apart ops y=true∧(actsB x=true→actsB y=true→newO x=true∧newO y=true)∧(readsB x=true→actsB y=true→makesB y=true)∧(actsB x=true→readsB y=true→makesB x=true))
 rd:∀i x p q,ops[i]? =some x→readsB x=true→p<q→q<ops.size→((ops[p]?).map actsB).getD false=true→((ops[q]?).map actsB).getD false=true→((Region.before ops).getD i 0).testBit q=true→((Region.before ops).getD i 0).testBit p=true
theorem okDraw_ok{ops:Array Oper}(h:okDraw ops=true) :DrawOK ops:=by
 unfold okDraw at h
 simp only [Bool.and_eq_true] at h
 obtain ⟨⟨h1,h2⟩,h3⟩:=h
 refine ⟨?_, ?_, ?_⟩
 ·intro j o e ho he hb
  have hm:(o,j)∈ops.toList.zipIdx:=by
   rw [List.mem_zipIdx_iff_getElem?]
   simpa using ho
  have:=List.all_eq_true.1 h1 (o,j) hm
  have:=List.all_eq_true.1 this e (by simpa using he)
  simp only [hb,Bool.not_true,Bool.false_or,decide_eq_true_eq] at this
  exact this
 ·intro i j x y hij hx hy
  have hj:j<ops.size:=by
   rcases Nat.lt_or_ge j ops.size with h | h
   ·exact h
   ·rw [Array.getElem?_eq_none h] at hy; cases hy
  have hm:(i,j)∈idxPairs ops.size:=by
   unfold idxPairs
   rw [List.mem_flatMap]
   exact ⟨j,by simpa using hj,by simp; omega⟩
  have:=List.all_eq_true.1 h2 (i,j) hm
  simp only [hx,hy,Bool.or_eq_true,Bool.and_eq_true] at this
  rcases this with h | ⟨⟨⟨a,b⟩,c⟩,d⟩
  ·exact .inl h
  ·refine .inr ⟨a, ?_, ?_, ?_⟩
   ·intro p q
    simpa [p,q] using b
   ·intro p q
    simpa [p,q] using c
   ·intro p q
    simpa [p,q] using d
 ·intro i x p q hx hr hpq hq ha1 ha2 hb
  have hi:i<ops.size:=by
   rcases Nat.lt_or_ge i ops.size with h | h
   ·exact h
   ·rw [Array.getElem?_eq_none h] at hx; cases hx
  have g1:=List.all_eq_true.1 h3 i (by simpa using hi)
  rw [hx] at g1
  simp only [Option.map_some,Option.getD_some,hr,Bool.not_true,Bool.false_or] at g1
  have hm:(p,q)∈idxPairs ops.size:=by
   unfold idxPairs
   rw [List.mem_flatMap]
   exact ⟨q,by simpa using hq,by simp; omega⟩
  have g2:=List.all_eq_true.1 g1 (p,q) hm
  simp only [ha1,ha2,hb,Bool.and_self,Bool.not_true,Bool.false_or] at g2
  exact g2
theorem ready_pairs{ops:Array Oper}(hd:DrawOK ops){S:Nat→Bool}(hS:Closed ops S){i:Nat}{o:Oper}(ho:ops[i]? =some o)(hi:S i=false)(hp:∀e∈o.after,Region.binds .any e=true→S e.on=true)
  {j:Nat} {y:Oper} (hy:ops[j]? =some y) (hne:j ≠i) (hord:i<j→((Region.before ops).getD j 0).testBit i=true) (hord2:j<i→((Region.before ops).getD i 0).testBit j=true):S j=true↔j<i:=by
 constructor
 ·intro hj
  rcases Nat.lt_trichotomy j i with h | h | h
  ·exact h
  ·exact absurd h hne
  ·have:=closed_before hS hd.lt j y hy (hS j y hy hj) i (hord h)
   rw [hi] at this
   cases this
 ·intro hlt
  exact closed_before hS hd.lt i o ho hp j (hord2 hlt)
/-! Counting what acts. -/
def cnt(ops:Array Oper)(S:Nat→Bool) :Nat→Nat
 | 0=>0
 | n+1=>cnt ops S n+(if S n=true∧((ops[n]?).map actsB).getD false=true then 1 else 0)
theorem cnt_congr(ops:Array Oper){S T:Nat→Bool} :∀(n:Nat),(∀j,j<n→((ops[j]?).map actsB).getD false=true→(S j=true↔T j=true))→cnt ops S n=cnt ops T n
 | 0,_=>rfl
 | n+1,h=>by
  rw [cnt,cnt,cnt_congr ops n (fun j hj=>h j (by omega))]
  congr 1
  by_cases ha:((ops[n]?).map actsB).getD false=true
  ·have:=h n (by omega) ha
   simp only [ha,and_true,this]
  ·simp [ha]
def upTo(k:Nat) :Nat→Bool:=fun j=>decide (j<k)
theorem cnt_upTo(ops:Array Oper)(k:Nat) :∀(n:Nat),k≤n→cnt ops (upTo k) n=cnt ops (upTo k) k
  | 0, h => by have : k = 0 := by omega
               subst this; rfl
  | n+1,h=>by
    by_cases e:k=n+1
    · subst e; rfl
    · rw [cnt,cnt_upTo ops k n (by omega)]
      have:upTo k n=false:=by unfold upTo; simp; omega
      simp [this]
theorem cnt_full(ops:Array Oper)(k:Nat) :cnt ops (upTo k) k=cnt ops (fun _=>true) k:=cnt_congr ops k fun j hj _=>by unfold upTo; simp [hj]
theorem acts_prefix{ops:Array Oper}{X:Nat→Bool}(hX:∀p q,p<q→((ops[p]?).map actsB).getD false=true→((ops[q]?).map actsB).getD false=true→X q=true→X p=true) :
  ∀(m:Nat),∃j,j≤m∧∀q,q<m→((ops[q]?).map actsB).getD false=true→(X q=true↔q<j)
 | 0=>⟨0,Nat.le_refl _,fun q hq=>by omega⟩
 | m+1=>by
  obtain ⟨j,hj,h⟩:=acts_prefix hX m
  by_cases ha:((ops[m]?).map actsB).getD false=true∧X m=true
  ·refine ⟨m+1,Nat.le_refl _,fun q hq hqa=>⟨fun _=>hq,fun _=> ?_⟩⟩
   by_cases e:q=m
   ·subst e; exact ha.2
   ·exact hX q m (by omega) hqa ha.1 ha.2
  ·refine ⟨j,by omega,fun q hq hqa=> ?_⟩
   by_cases e:q=m
   ·subst e
    constructor
    ·intro hx; exact absurd ⟨hqa,hx⟩ ha
    ·intro hlt; omega
   ·exact h q (by omega) hqa
theorem actsAhead_cnt(ops:Array Oper)(i:Nat) :actsAhead ops i=cnt ops (fun j=>((Region.before ops).getD i 0).testBit j) ops.size:=by
 unfold actsAhead
 generalize ops.size=n
 induction n with
 | zero=>rfl
 | succ n ih=>
  rw [List.range_succ,List.filter_append,List.length_append,ih,cnt]
  congr 1
  by_cases h:((Region.before ops).getD i 0).testBit n=true∧((ops[n]?).map actsB).getD false=true
  ·rw [if_pos h,List.filter_cons_of_pos (by rw [h.1,h.2]; rfl)]
   rfl
  ·rw [if_neg h]
   have:(((Region.before ops).getD i 0).testBit n &&((ops[n]?).map actsB).getD false)=false:=by
    rw [Bool.eq_false_iff]
    intro hh
    simp only [Bool.and_eq_true] at hh
    exact h hh
   rw [List.filter_cons_of_neg (by rw [this]; simp)]
   rfl
end Go.Proofs.Ytpfploolkmcalaa.AM
end
section
namespace Go.Proofs.Ytpfploolkmcalaa.AM
open Go Go.RowKit
set_option linter.unusedSectionVars false
set_option linter.unusedSimpArgs false
set_option linter.unusedVariables false
def guardB(ops:Array Oper)(o:Oper)(e:Env) :Option Bool:=
 match o.guard with
 | none=>some true
 | some (g,want)=>match (ops[g]?).bind (·.dst) with
  | some d=>match e.get d with
   | .bool b=>some (b==want)
   | .tuple vs=>bif vs.isEmpty then some false else none
   | _=>none
  | none=>none
theorem guardC_B{R:Type}{r:R}{ops:Array Oper}{o:Oper}{e:Env}{yes no:Env→Option R}(hg:guardC ops o e yes no=some r) :
  (∃e',(∀t,e'.get t=e.get t)∧yes e'=some r∧guardB ops o e=some true)∨(∃e',(∀t,e'.get t=e.get t)∧no e'=some r∧guardB ops o e=some false):=by
 unfold guardC at hg
 split at hg
 ·rename_i hgu
  exact .inl ⟨e,fun _=>rfl,hg,by simp [guardB,hgu]⟩
 ·rename_i g want hgu
  split at hg
  ·rename_i d hd
   split at hg
   ·rename_i b hb
    have hsame:∀t,Env.get ((d, .bool b)::e) t=e.get t:=by
     intro t
     simp only [Env.get]
     by_cases h:d=t
     ·subst h; simp [hb]
     ·have:(d==t)=false:=by simpa using h
      simp [this]
    split at hg <;>split at hg
    ·exact .inl ⟨_,hsame,hg,by simp [guardB,hgu,hd,hb]⟩
    ·exact .inr ⟨_,hsame,hg,by simp [guardB,hgu,hd,hb]⟩
    ·exact .inr ⟨_,hsame,hg,by simp [guardB,hgu,hd,hb]⟩
    ·exact .inl ⟨_,hsame,hg,by simp [guardB,hgu,hd,hb]⟩
   ·rename_i vs hvs
    cases hem:vs.isEmpty <;>rw [hem] at hg
    ·cases hg
    ·exact .inr ⟨e,fun _=>rfl,hg,by simp [guardB,hgu,hd,hvs,hem]⟩
   ·cases hg
  ·cases hg
/-! ### operations that make blocks, in any order -/
def isAct(ops:Array Oper)(j:Nat) :Bool:=((ops[j]?).map actsB).getD false
def isMk(ops:Array Oper)(j:Nat) :Bool:=((ops[j]?).map newO).getD false
def front(ops:Array Oper)(S:Nat→Bool) :Nat→Nat
 | 0=>0
 | n+1=>if front ops S n<n then front ops S n else if isAct ops n=true∧isMk ops n=false∧S n=false then n else n+1
theorem front_spec(ops:Array Oper)(S:Nat→Bool) :∀n,front ops S n≤n∧(∀j,j<front ops S n→isAct ops j=true→isMk ops j=true∨S j=true)∧(front ops S n<n→isAct ops (front ops S n)=true∧isMk ops (front ops S n)=false∧S (front ops S n)=false)
 | 0=>⟨Nat.le_refl _,fun j hj=>absurd hj (Nat.not_lt_zero _),fun h=>absurd h (Nat.lt_irrefl _)⟩
 | n+1=>by
  obtain ⟨h1,h2,h3⟩:=front_spec ops S n
  rw [front]
  by_cases h:front ops S n<n
  ·rw [if_pos h]
   exact ⟨by omega,h2,fun _=>h3 h⟩
  ·have e:front ops S n=n:=by omega
   rw [e] at h2
   rw [if_neg h]
   by_cases hc:isAct ops n=true∧isMk ops n=false∧S n=false
   ·rw [if_pos hc]
    exact ⟨by omega,h2,fun _=>hc⟩
   ·rw [if_neg hc]
    refine ⟨Nat.le_refl _,fun j hj ha=> ?_,fun h=>absurd h (Nat.lt_irrefl _)⟩
    by_cases ej:j=n
    ·subst ej
     cases hm:isMk ops j with
     | true=>exact .inl rfl
     | false=>
      right
      cases hs:S j with
      | true=>rfl
      | false=>exact absurd ⟨ha,hm,hs⟩ hc
    ·exact h2 j (by omega) ha
theorem mk_act{ops:Array Oper}{j:Nat}(h:isMk ops j=true) :isAct ops j=true:=by
 unfold isMk at h
 unfold isAct
 cases ho:ops[j]? with
 | none=>rw [ho] at h; cases h
 | some o=>
  rw [ho] at h
  simp only [Option.map_some,Option.getD_some] at h ⊢
  unfold newO at h
  unfold actsB cls
  split at h <;>first | (cases h; done) | (rename_i heq; rw [heq])
structure RunOK (ops:Array Oper) (took:Nat→Bool) (Hh:Nat→Hp):Prop where
 quiet:∀j,j<ops.size→isAct ops j=false→Hh (j+1)=Hh j
 skip:∀j,j<ops.size→took j=false→Hh (j+1)=Hh j
 made:∀j,j<ops.size→isMk ops j=true→took j=true→∃cs sz,Hh (j+1)=(Hh j).alloc cs sz []
 wf:∀j,j≤ops.size→HpWf (Hh j)
 hole:∀j,j≤ops.size→(Hh j).hole=(Hh 0).hole
 next:∀j,j<ops.size→(Hh j).next≤(Hh (j+1)).next
def openM(ops:Array Oper)(took:Nat→Bool)(Hh:Nat→Hp)(S:Nat→Bool)(m r:Nat) :Prop:=∃j,j<m∧isMk ops j=true∧took j=true∧S j=false∧r=(Hh j).next
noncomputable def heapS(ops:Array Oper)(took:Nat→Bool)(Hh:Nat→Hp)(S:Nat→Bool)(m:Nat) :Hp:=
 {Hh m with new:=fun r=>open Classical in if openM ops took Hh S m r then none else (Hh m).new r,hole:=fun r=>open Classical in if openM ops took Hh S m r then true else (Hh m).hole r}
section
variable {ops:Array Oper} {took:Nat→Bool} {Hh:Nat→Hp} {S:Nat→Bool}
theorem RunOK.next_le(rn:RunOK ops took Hh){a:Nat} :∀{b:Nat},a≤b→b≤ops.size→(Hh a).next≤(Hh b).next:=by
  intro b
  induction b with
  | zero => intro h _; have : a = 0 := by omega
            rw [this]; exact Nat.le_refl _
  | succ b ih=>
    intro h hb
    by_cases e:a=b+1
    · rw [e]; exact Nat.le_refl _
    · exact Nat.le_trans (ih (by omega) (by omega)) (rn.next b (by omega))
theorem RunOK.mk_lt(rn:RunOK ops took Hh){j m:Nat}(hj:j<m)(hm:m≤ops.size)(h1:isMk ops j=true)(h2:took j=true) :(Hh j).next<(Hh m).next:=by
 obtain ⟨cs,sz,e⟩:=rn.made j (by omega) h1 h2
 have:=rn.next_le (a:=j+1) (b:=m) (by omega) hm
 rw [e] at this
 exact this
theorem RunOK.seg(rn:RunOK ops took Hh){b:Nat} :∀{m:Nat},b≤m→m≤ops.size→(∀j,b≤j→j<m→isAct ops j=true→isMk ops j=true)→
    (Hh m).base=(Hh b).base∧(Hh m).old=(Hh b).old∧(Hh m).maps=(Hh b).maps∧∀r,(∀j,b≤j→j<m→isMk ops j=true→took j=true→r ≠(Hh j).next)→(Hh m).new r=(Hh b).new r:=by
  intro m
  induction m with
  | zero => intro h _ _; have : b = 0 := by omega
            subst this; exact ⟨rfl,rfl,rfl,fun r _=>rfl⟩
  | succ m ih=>
    intro h hm hall
    by_cases e:b=m+1
    · subst e; exact ⟨rfl,rfl,rfl,fun r _=>rfl⟩
    · obtain ⟨h1,h2,h3,h4⟩:=ih (by omega) (by omega) fun j a c=>hall j a (by omega)
      have same:Hh (m+1)=Hh m→(Hh (m+1)).base=(Hh b).base∧(Hh (m+1)).old=(Hh b).old∧(Hh (m+1)).maps=(Hh b).maps∧∀r,(∀j,b≤j→j<m+1→isMk ops j=true→took j=true→r ≠(Hh j).next)→(Hh (m+1)).new r=(Hh b).new r:=by
        intro e2
        rw [e2]
        exact ⟨h1,h2,h3,fun r hr=>h4 r fun j a c=>hr j a (by omega)⟩
      cases ha:isAct ops m with
      | false=>exact same (rn.quiet m (by omega) ha)
      | true=>
        cases ht:took m with
        | false=>exact same (rn.skip m (by omega) ht)
        | true=>
          have hmk:=hall m (by omega) (by omega) ha
          obtain ⟨cs,sz,e2⟩:=rn.made m (by omega) hmk ht
          rw [e2]
          refine ⟨h1,h2,h3,fun r hr=> ?_⟩
          rw [alloc_new,if_neg (hr m (by omega) (by omega) hmk ht)]
          exact h4 r fun j a c=>hr j a (by omega)
theorem Sim.reserve{B:Nat}{W:World}{ρ:Places}{w:World}(rn:RunOK ops took Hh){b m:Nat}(hbm:b≤m)(hm:m≤ops.size)(hall:∀j,b≤j→j<m→isAct ops j=true→isMk ops j=true)
  (h1:∀j,b≤j→isMk ops j=true→S j=false) (h2:∀j,j<b→isMk ops j=true→took j=true→S j=true) (s:Sim B W ρ (Hh b) w):Sim B W ρ (heapS ops took Hh S m) w:=by
 obtain ⟨e1,e2,e3,e4⟩:=rn.seg hbm hm hall
 have hopen:∀r,openM ops took Hh S m r↔∃j,b≤j∧j<m∧isMk ops j=true∧took j=true∧r=(Hh j).next:=by
  intro r
  constructor
  ·rintro ⟨j,a1,a2,a3,a4,a5⟩
   rcases Nat.lt_or_ge j b with hlt | hge
   ·rw [h2 j hlt a2 a3] at a4; cases a4
   ·exact ⟨j,hge,a1,a2,a3,a5⟩
  ·rintro ⟨j,a0,a1,a2,a3,a5⟩
   exact ⟨j,a1,a2,a3,h1 j a0 a2,a5⟩
 have hnew:∀r,(heapS ops took Hh S m).new r=(Hh b).new r:=by
  intro r
  unfold heapS
  dsimp only
  split
  ·rename_i ho
   obtain ⟨j,a0,a1,a2,a3,rfl⟩:=(hopen r).1 ho
   cases hb:(Hh b).new (Hh j).next with
   | none=>rfl
   | some c=>
    have:=(s.new_lt hb).2
    have:=rn.next_le (a:=b) (b:=j) a0 (by omega)
    omega
  ·rename_i ho
   exact e4 r fun j a b c d e=>ho ((hopen r).2 ⟨j,a,b,c,d,e⟩)
 have hnext:(Hh b).next≤(heapS ops took Hh S m).next:=rn.next_le hbm hm
 refine ⟨s.below,s.low, ?_,Nat.le_trans s.first hnext, ?_, ?_, ?_, ?_, ?_, ?_, ?_⟩
 ·exact e1.trans s.base
 ·intro a v hav
  exact s.old a v (by rw [←e2]; exact hav)
 ·intro r l hr
  obtain ⟨a,b,c,d⟩:=s.dom r l hr
  exact ⟨a,Nat.lt_of_lt_of_le b hnext,c,d⟩
 ·intro r c hr
  rw [hnew] at hr
  exact s.new r c hr
 ·intro r es hr
  exact s.maps r es (by rw [←e3]; exact hr)
 ·intro r1 b1 r2 b2 l1 l2 g1 g2
  rw [hnew] at g1 g2
  exact s.apart r1 b1 r2 b2 l1 l2 g1 g2
 ·intro r1 b1 r2 b2 l1 l2 g1 g2
  exact s.mapsApart r1 b1 r2 b2 l1 l2 (by rw [←e3]; exact g1) (by rw [←e3]; exact g2)
 ·intro r hr
  have hr':(open Classical in if openM ops took Hh S m r then true else (Hh m).hole r)=true:=hr
  split at hr'
  ·rename_i ho
   obtain ⟨j,a0,a1,a2,a3,rfl⟩:=(hopen r).1 ho
   have g1:=rn.next_le (a:=b) (b:=j) a0 (by omega)
   refine ⟨Nat.le_trans s.first g1,rn.mk_lt a1 hm a2 a3, ?_⟩
   cases hb:ρ (Hh j).next with
   | none=>rfl
   | some l=>
    have:=(s.dom _ _ hb).2.1
    omega
  ·rw [rn.hole m hm,←rn.hole b (by omega)] at hr'
   obtain ⟨a,b,c⟩:=s.free r hr'
   exact ⟨a,Nat.lt_of_lt_of_le b hnext,c⟩
theorem heapS_all(m:Nat)(hall:∀j,j<m→isMk ops j=true→took j=true→S j=true) :heapS ops took Hh S m=Hh m:=by
 have ho:∀r,¬openM ops took Hh S m r:=by
  rintro r ⟨j,a1,a2,a3,a4,_⟩
  rw [hall j a1 a2 a3] at a4
  cases a4
 unfold heapS
 have e1:(fun r=>open Classical in if openM ops took Hh S m r then none else (Hh m).new r)=(Hh m).new:=by
  funext r
  exact if_neg (ho r)
 have e2:(fun r=>open Classical in if openM ops took Hh S m r then true else (Hh m).hole r)=(Hh m).hole:=by
  funext r
  exact if_neg (ho r)
 rw [e1,e2]
theorem front_congr{T:Nat→Bool} :∀n,(∀j,j<n→isAct ops j=true→isMk ops j=false→S j=T j)→front ops S n=front ops T n
 | 0,_=>rfl
 | n+1,h=>by
  have ih:=front_congr (T:=T) n fun j hj=>h j (by omega)
  rw [front,front,ih]
  by_cases h1:front ops T n<n
  ·rw [if_pos h1,if_pos h1]
  ·rw [if_neg h1,if_neg h1]
   by_cases h2:isAct ops n=true∧isMk ops n=false
   ·rw [h n (by omega) h2.1 h2.2]
   ·rw [if_neg fun hh=>h2 ⟨hh.1,hh.2.1⟩,if_neg fun hh=>h2 ⟨hh.1,hh.2.1⟩]
theorem heapS_congr{T:Nat→Bool}{m:Nat}(h:∀j,j<m→isMk ops j=true→took j=true→S j=T j) :heapS ops took Hh S m=heapS ops took Hh T m:=by
 have:∀r,openM ops took Hh S m r=openM ops took Hh T m r:=fun r=>propext (exists_congr fun j=>by
  constructor
  ·rintro ⟨a1,a2,a3,a4,a5⟩; exact ⟨a1,a2,a3,by rw [←h j a1 a2 a3]; exact a4,a5⟩
  ·rintro ⟨a1,a2,a3,a4,a5⟩; exact ⟨a1,a2,a3,by rw [h j a1 a2 a3]; exact a4,a5⟩)
 have e:openM ops took Hh S m=openM ops took Hh T m:=funext this
 unfold heapS
 rw [e]
theorem heapS_fill(rn:RunOK ops took Hh){T:Nat→Bool}{i m:Nat}(him:i<m)(hm:m≤ops.size)(hi:isMk ops i=true)(ht:took i=true)(hSi:S i=false)(hT:∀j,T j=if j=i then true else S j)
  (hseg:∀j,i<j→j<m→isAct ops j=true→isMk ops j=true) (h0:∀r,(Hh 0).hole r=true→r<(Hh 0).next) {cs:List Value} {sz:Nat} (he:Hh (i+1)=(Hh i).alloc cs sz []):
  (heapS ops took Hh S m).hole (Hh i).next=true∧heapS ops took Hh T m=(heapS ops took Hh S m).fill (Hh i).next ⟨cs,sz,true,[]⟩:=by
 have hne:∀j,j ≠i→j<m→isMk ops j=true→took j=true→(Hh j).next ≠(Hh i).next:=by
  intro j hj hjm h1 h2 e
  rcases Nat.lt_or_gt_of_ne hj with hlt | hgt
  ·have:=rn.mk_lt (j:=j) (m:=i) hlt (by omega) h1 h2
   omega
  ·have:=rn.mk_lt (j:=i) (m:=j) hgt (by omega) hi ht
   omega
 have hopenT:∀r,openM ops took Hh T m r↔openM ops took Hh S m r∧r ≠(Hh i).next:=by
  intro r
  constructor
  ·rintro ⟨j,a1,a2,a3,a4,rfl⟩
   rw [hT] at a4
   split at a4
   ·cases a4
   ·rename_i hji
    exact ⟨⟨j,a1,a2,a3,a4,rfl⟩,hne j hji a1 a2 a3⟩
  ·rintro ⟨⟨j,a1,a2,a3,a4,rfl⟩,hr⟩
   refine ⟨j,a1,a2,a3, ?_,rfl⟩
   rw [hT,if_neg (fun e=>hr (by rw [e]))]
   exact a4
 have hopenI:openM ops took Hh S m (Hh i).next:=⟨i,him,hi,ht,hSi,rfl⟩
 have hat:(Hh m).new (Hh i).next=some ⟨cs,sz,true,[]⟩:=by
  obtain ⟨_,_,_,e4⟩:=rn.seg (b:=i+1) (m:=m) (by omega) hm fun j a b=>hseg j (by omega) b
  rw [e4 _ fun j a b c d e=>hne j (by omega) b c d e.symm,he,alloc_new,if_pos rfl]
 have hh:(Hh m).hole (Hh i).next=false:=by
  cases hb:(Hh m).hole (Hh i).next with
  | false=>rfl
  | true=>
   rw [rn.hole m hm] at hb
   have:=h0 _ hb
   have:=rn.next_le (a:=0) (b:=i) (Nat.zero_le _) (by omega)
   omega
 refine ⟨by unfold heapS; exact if_pos hopenI, ?_⟩
 unfold heapS Hp.fill
 have e1:(fun r=>open Classical in if openM ops took Hh T m r then none else (Hh m).new r)=fun r=>bif r==(Hh i).next then some ⟨cs,sz,true,[]⟩ else (open Classical in if openM ops took Hh S m r then none else (Hh m).new r):=by
  funext r
  by_cases e:r=(Hh i).next
  ·subst e
   rw [if_neg fun h=>((hopenT _).1 h).2 rfl,hat]
   simp
  ·have e2:(r==(Hh i).next)=false:=by simpa using e
   rw [e2,cond_false]
   by_cases ho:openM ops took Hh S m r
   ·rw [if_pos ho,if_pos ((hopenT r).2 ⟨ho,e⟩)]
   ·rw [if_neg ho,if_neg fun h=>ho ((hopenT r).1 h).1]
 have e2:(fun r=>open Classical in if openM ops took Hh T m r then true else (Hh m).hole r)=fun r=>bif r==(Hh i).next then false else (open Classical in if openM ops took Hh S m r then true else (Hh m).hole r):=by
  funext r
  by_cases e:r=(Hh i).next
  ·subst e
   rw [if_neg fun h=>((hopenT _).1 h).2 rfl,hh]
   simp
  ·have e3:(r==(Hh i).next)=false:=by simpa using e
   rw [e3,cond_false]
   by_cases ho:openM ops took Hh S m r
   ·rw [if_pos ho,if_pos ((hopenT r).2 ⟨ho,e⟩)]
   ·rw [if_neg ho,if_neg fun h=>ho ((hopenT r).1 h).1]
 rw [e1,e2]
end
structure TraceAt (P:Program) (H:Hint) (call:FuncId→List Value→Hp→Option (Value×Hp)) (ops:Array Oper) (Hs:Nat→Hp) (j:Nat) (o:Oper) (v:Value) (tk:Bool) (e e1:Env) (g g1:Hp) (r r1:List (Nat×Nat)):Prop where
 env:∀t,e1.get t=(e.put o.dst v).get t
 guard:guardB ops o e=some tk
 skip:tk=false→v=undef∧g1=g
 pure:tk=true→cls o= .pure→g1=g∧opC P H call e.eval o g (fun v h=>some (v,h))=some (v,g)
 reads:tk=true→cls o= .reads→g1=g∧opC P H call e.eval o (Hs (actsAhead ops j)) (fun v h=>some (v,h))=some (v,Hs (actsAhead ops j))∧(lenB o=true→lenFree o e.eval=true)
 acts:tk=true→cls o= .acts→besideRead ops j=false→opC P H call e.eval o g (fun v h=>some (v,h))=some (v,g1)
 acts2:tk=true→cls o= .acts→besideRead ops j=true→∃g2,opC P H call e.eval o (g.relow g.next) (fun v h=>some (v,h))=some (v,g2)∧beside ops j r g g2∧g1=g2.relow (min g.low g2.low)
 notes:r1=(if (tk &&readsB o)=true then noteR o j e r else r)
theorem eval_same{e e':Env}(h:∀t,e'.get t=e.get t) :e'.eval=e.eval:=by
 funext x
 cases x <;>first | exact h _ | rfl
theorem noteR_same{e e':Env}(h:∀t,e'.get t=e.get t)(o:Oper)(i:Nat)(rs:List (Nat×Nat)) :noteR o i e' rs=noteR o i e rs:=by
 have:readBlk o e'=readBlk o e:=by
  unfold readBlk
  split
  ·split
   ·rw [h]
   ·rfl
  ·rfl
 unfold noteR
 rw [this]
theorem put_same{e e':Env}(h:∀t,e'.get t=e.get t)(d:Option Nat)(v:Value)(t:Nat) :(e'.put d v).get t=(e.put d v).get t:=by
 rw [get_put,get_put,h]
theorem before_lt{ops:Array Oper}(hd:DrawOK ops) :∀(j q:Nat),((Region.before ops).getD j 0).testBit q=true→q<j:=by
 intro j
 induction j using Nat.strongRecOn with
 | _ j ih=>
  intro q hq
  cases ho:ops[j]? with
  | none=>
   have:(Region.before ops).getD j 0=0:=by
    rw [Array.getD_eq_getD_getElem?,Array.getElem?_eq_none]
    ·rfl
    ·rw [before_eq,foldB_size]
     have:=Array.getElem?_eq_none_iff.1 ho
     have h0:(#[]:Array Nat).size=0:=rfl
     simp only [h0,Array.length_toList]
     omega
   rw [this] at hq
   simp at hq
  | some o=>
   obtain ⟨e,he,hb,h⟩:=before_edge ops ho hq
   have:=hd.lt j o e ho he hb
   rcases h with rfl | h
   ·exact this
   ·have:=ih e.on this q h
    omega
theorem actsAhead_le{ops:Array Oper}(hd:DrawOK ops)(i:Nat)(hi:i≤ops.size) :actsAhead ops i≤cnt ops (fun _=>true) i:=by
 rw [actsAhead_cnt]
 have e1:cnt ops (fun j=>((Region.before ops).getD i 0).testBit j) ops.size=cnt ops (fun j=>((Region.before ops).getD i 0).testBit j &&upTo i j) ops.size:=
  cnt_congr ops _ fun j _ _=>by
   simp only [Bool.and_eq_true,upTo,decide_eq_true_eq]
   exact ⟨fun h=>⟨h,before_lt hd i j h⟩,fun h=>h.1⟩
 rw [e1,←cnt_full]
 rw [←cnt_upTo ops i ops.size hi]
 have le:∀(n:Nat),cnt ops (fun j=>((Region.before ops).getD i 0).testBit j &&upTo i j) n≤cnt ops (upTo i) n:=by
  intro n
  induction n with
  | zero=>exact Nat.le_refl _
  | succ n ih=>
   rw [cnt,cnt]
   by_cases h:(((Region.before ops).getD i 0).testBit n &&upTo i n)=true∧((ops[n]?).map actsB).getD false=true
   ·rw [if_pos h,if_pos ⟨by simp only [Bool.and_eq_true] at h; exact h.1.2,h.2⟩]
    omega
   ·rw [if_neg h]
    omega
 exact le _
section
variable {P:Program} {H:Hint} {call:FuncId→List Value→Hp→Option (Value×Hp)}
theorem trace{ops:Array Oper}(hd:DrawOK ops){R:Type}{r:R}{K:Env→Hp→Option R} :∀(l:List Oper) (i:Nat) (e:Env) (h:Hp) (hs:List Hp) (rs:List (Nat×Nat)),i≤ops.size→ops.toList.drop i=l→hs.length=cnt ops (fun _=>true) i+1→hs.getD (cnt ops (fun _=>true) i) h=h→
  drawC P H call ops l i e h hs rs K=some r→∃(val:Nat→Value) (took:Nat→Bool) (E:Nat→Env) (Hh Hs:Nat→Hp) (Rs:Nat→List (Nat×Nat)),(∀t,(E i).get t=e.get t)∧Hh i=h∧Rs i=rs∧(∀k,k<hs.length→Hs k=hs.getD k h)∧
   (∀j o,i≤j→ops[j]? =some o→TraceAt P H call ops Hs j o (val j) (took j) (E j) (E (j+1)) (Hh j) (Hh (j+1)) (Rs j) (Rs (j+1)))∧(∀j,i≤j→j≤ops.size→Hs (cnt ops (fun _=>true) j)=Hh j)∧
   ∃en,(∀t,en.get t=(E ops.size).get t)∧K en (Hh ops.size)=some r
 | [],i,e,h,hs,rs,hin,hl,hlen,hlast,hk=>by
  have hi:i=ops.size:=by
   have:=List.drop_eq_nil_iff.1 hl
   simp at this
   omega
  subst hi
  refine ⟨fun _=>undef,fun _=>false,fun _=>e,fun _=>h,fun k=>hs.getD k h,fun _=>rs,fun _=>rfl,rfl,rfl,fun _ _=>rfl, ?_, ?_,e,fun _=>rfl,hk⟩
  ·intro j o hj ho
   rw [Array.getElem?_eq_none hj] at ho
   cases ho
  ·intro j h1 h2
   have:j=ops.size:=by omega
   subst this
   exact hlast
 | o::rest,i,e,h,hs,rs,hin,hl,hlen,hlast,hk=>by
  have hio:ops[i]? =some o:=by
   have:(ops.toList.drop i)[0]? =some o:=by rw [hl]; rfl
   rw [List.getElem?_drop] at this
   simpa using this
  have hilt:i<ops.size:=by
   rcases Nat.lt_or_ge i ops.size with h | h
   ·exact h
   ·rw [Array.getElem?_eq_none h] at hio; cases hio
  have hrest:ops.toList.drop (i+1)=rest:=by
   have:(ops.toList.drop i).drop 1=rest:=by rw [hl]; rfl
   rwa [List.drop_drop] at this
  have hcnt:cnt ops (fun _=>true) (i+1)=cnt ops (fun _=>true) i+(if actsB o=true then 1 else 0):=by
   rw [cnt,hio]
   simp
  have build:∀(v:Value) (tk:Bool) (e1:Env) (g1:Hp) (hs1:List Hp) (r1:List (Nat×Nat)),(∀k,k<hs.length→hs1.getD k g1=hs.getD k h)→hs.length≤hs1.length→
    (∃(val:Nat→Value) (took:Nat→Bool) (E:Nat→Env) (Hh Hs:Nat→Hp) (Rs:Nat→List (Nat×Nat)),(∀t,(E (i+1)).get t=e1.get t)∧Hh (i+1)=g1∧Rs (i+1)=r1∧(∀k,k<hs1.length→Hs k=hs1.getD k g1)∧
     (∀j o,i+1≤j→ops[j]? =some o→TraceAt P H call ops Hs j o (val j) (took j) (E j) (E (j+1)) (Hh j) (Hh (j+1)) (Rs j) (Rs (j+1)))∧(∀j,i+1≤j→j≤ops.size→Hs (cnt ops (fun _=>true) j)=Hh j)∧
     ∃en,(∀t,en.get t=(E ops.size).get t)∧K en (Hh ops.size)=some r)→
    (∀Hs:Nat→Hp,(∀k,k<hs.length→Hs k=hs.getD k h)→∀e2,(∀t,Env.get e2 t=e1.get t)→TraceAt P H call ops Hs i o v tk e e2 h g1 rs r1)→
    ∃(val:Nat→Value) (took:Nat→Bool) (E:Nat→Env) (Hh Hs:Nat→Hp) (Rs:Nat→List (Nat×Nat)),(∀t,(E i).get t=e.get t)∧Hh i=h∧Rs i=rs∧(∀k,k<hs.length→Hs k=hs.getD k h)∧
     (∀j o,i≤j→ops[j]? =some o→TraceAt P H call ops Hs j o (val j) (took j) (E j) (E (j+1)) (Hh j) (Hh (j+1)) (Rs j) (Rs (j+1)))∧(∀j,i≤j→j≤ops.size→Hs (cnt ops (fun _=>true) j)=Hh j)∧
     ∃en,(∀t,en.get t=(E ops.size).get t)∧K en (Hh ops.size)=some r:=by
   intro v tk e1 g1 hs1 r1 hpre hle ⟨val,took,E,Hh,Hs,Rs,a1,a2,a2r,a3,a4,a5,en,a6,a7⟩ hat
   have b3:∀k,k<hs.length→Hs k=hs.getD k h:=fun k hk=>by rw [a3 k (by omega),hpre k hk]
   refine ⟨fun j=>if j=i then v else val j,fun j=>if j=i then tk else took j,fun j=>if j=i then e else E j,fun j=>if j=i then h else Hh j,Hs,fun j=>if j=i then rs else Rs j,fun _=>by simp,by simp,by simp,b3, ?_, ?_,en, ?_, ?_⟩
   ·intro j o2 hj ho2
    by_cases e0:j=i
    ·subst e0
     rw [hio] at ho2
     cases ho2
     have:¬(j+1=j):=by omega
     simp only [if_true,this,if_false]
     rw [a2,a2r]
     exact hat Hs b3 _ a1
    ·have:¬(j+1=i):=by omega
     simp only [e0,this,if_false]
     exact a4 j o2 (by omega) ho2
   ·intro j h1 h2
    by_cases e0:j=i
    ·subst e0
     simp only [if_true]
     rw [b3 _ (by omega)]
     exact hlast
    ·simp only [e0,if_false]
     exact a5 j (by omega) h2
   ·have:¬(ops.size=i):=by omega
    simp only [this,if_false]
    exact a6
   ·have:¬(ops.size=i):=by omega
    simp only [this,if_false]
    exact a7
  rw [drawC] at hk
  rcases guardC_B hk with ⟨e',he,hy,hg⟩ | ⟨e',he,hn,hg⟩
  ·cases hcl:cls o <;>simp only [hcl] at hy
   ·-- pure
    have hna:actsB o=false:=by simp [actsB,hcl]
    rw [opC_eq,eval_same he] at hy
    obtain ⟨q,hq,hy2⟩:=Option.bind_eq_some_iff.1 hy
    obtain ⟨v,h2⟩:=q
    have:=opC_quiet hna hq
    subst this
    refine build v true _ h2 hs rs (fun k hk=>rfl) (Nat.le_refl _) (trace hd rest (i+1) _ _ _ _ hilt hrest (by rw [hcnt,hna]; simpa using hlen) (by rw [hcnt,hna]; simpa using hlast) hy2) ?_
    intro Hs _ e2 he2
    exact ⟨(fun t=>by rw [he2,put_same he]),hg,(fun h=>by cases h),fun _ _=>⟨rfl,hq⟩,(fun _ h=>by rw [hcl] at h; cases h),(fun _ h=>by rw [hcl] at h; cases h),(fun _ h=>by rw [hcl] at h; cases h),by rw [if_neg (by simp [readsB,hcl])]⟩
   ·-- reads
    have hna:actsB o=false:=by simp [actsB,hcl]
    obtain ⟨hfree,hy⟩:=needP_some hy
    rw [eval_same he] at hfree
    rw [noteR_same he,opC_eq,eval_same he] at hy
    obtain ⟨q,hq,hy2⟩:=Option.bind_eq_some_iff.1 hy
    obtain ⟨v,h2⟩:=q
    have hq2:=opC_quiet hna hq
    refine build v true _ h hs (noteR o i e rs) (fun k hk=>rfl) (Nat.le_refl _) (trace hd rest (i+1) _ _ _ _ hilt hrest (by rw [hcnt,hna]; simpa using hlen) (by rw [hcnt,hna]; simpa using hlast) hy2) ?_
    intro Hs hHs e2 he2
    have hle:=actsAhead_le hd i hin
    rw [hq2,←hHs _ (by omega)] at hq
    exact ⟨(fun t=>by rw [he2,put_same he]),hg,(fun h=>by cases h),(fun _ h=>by rw [hcl] at h; cases h),fun _ _=>⟨rfl,hq,hfree⟩,(fun _ h=>by rw [hcl] at h; cases h),(fun _ h=>by rw [hcl] at h; cases h),by rw [if_pos (by simp [readsB,hcl])]⟩
   ·-- acts
    have hna:actsB o=true:=by simp [actsB,hcl]
    have hpre:∀(g:Hp) k,k<hs.length→(hs++[g]).getD k g=hs.getD k h:=by
     intro g k hk
     simp only [List.getD_eq_getElem?_getD]
     rw [List.getElem?_append_left hk]
     rw [List.getElem?_eq_getElem hk]
     rfl
    have hlast2:∀g:Hp,(hs++[g]).getD (cnt ops (fun _=>true) (i+1)) g=g:=by
     intro g
     rw [hcnt,hna,if_pos rfl,←hlen]
     simp
    cases hbr:besideRead ops i <;>rw [hbr] at hy <;>simp only [cond_true,cond_false] at hy
    ·rw [opC_eq,eval_same he] at hy
     obtain ⟨q,hq,hy2⟩:=Option.bind_eq_some_iff.1 hy
     obtain ⟨v,h2⟩:=q
     refine build v true _ h2 (hs++[h2]) rs (hpre h2) (by simp) (trace hd rest (i+1) _ _ _ _ hilt hrest (by rw [hcnt,hna,if_pos rfl]; simp [hlen]) (hlast2 h2) hy2) ?_
     intro Hs hHs e2 he2
     exact ⟨(fun t=>by rw [he2,put_same he]),hg,(fun h=>by cases h),(fun _ h=>by rw [hcl] at h; cases h),(fun _ h=>by rw [hcl] at h; cases h),fun _ _ _=>hq,(fun _ _ h=>by rw [hbr] at h; cases h),by rw [if_neg (by simp [readsB,hcl])]⟩
    ·rw [opC_eq,eval_same he] at hy
     obtain ⟨q,hq,hy2⟩:=Option.bind_eq_some_iff.1 hy
     obtain ⟨v,h2⟩:=q
     obtain ⟨hl2,hy3⟩:=needP_some hy2
     refine build v true _ (h2.relow (min h.low h2.low)) (hs++[h2.relow (min h.low h2.low)]) rs (hpre _) (by simp) (trace hd rest (i+1) _ _ _ _ hilt hrest (by rw [hcnt,hna,if_pos rfl]; simp [hlen]) (hlast2 _) hy3) ?_
     intro Hs hHs e2 he2
     exact ⟨(fun t=>by rw [he2,put_same he]),hg,(fun h=>by cases h),(fun _ h=>by rw [hcl] at h; cases h),(fun _ h=>by rw [hcl] at h; cases h),(fun _ _ h=>by rw [hbr] at h; cases h),fun _ _ _=>⟨h2,hq,hl2,rfl⟩,by rw [if_neg (by simp [readsB,hcl])]⟩
  ·cases hna:actsB o with
   | false=>
    rw [hna,cond_false] at hn
    refine build undef false _ h hs rs (fun k hk=>rfl) (Nat.le_refl _) (trace hd rest (i+1) _ _ _ _ hilt hrest (by rw [hcnt,hna]; simpa using hlen) (by rw [hcnt,hna]; simpa using hlast) hn) ?_
    intro Hs _ e2 he2
    exact ⟨(fun t=>by rw [he2,put_same he]),hg,fun _=>⟨rfl,rfl⟩,(fun h=>by cases h),(fun h=>by cases h),(fun h=>by cases h),(fun h=>by cases h),by rw [if_neg (by simp)]⟩
   | true=>
    rw [hna,cond_true] at hn
    refine build undef false _ h (hs++[h]) rs (fun k hk=> ?_) (by simp) (trace hd rest (i+1) _ _ _ _ hilt hrest (by rw [hcnt,hna,if_pos rfl]; simp [hlen]) (by rw [hcnt,hna,if_pos rfl,←hlen]; simp) hn) ?_
    ·simp only [List.getD_eq_getElem?_getD]
     rw [List.getElem?_append_left hk]
    ·intro Hs _ e2 he2
     exact ⟨(fun t=>by rw [he2,put_same he]),hg,fun _=>⟨rfl,rfl⟩,(fun h=>by cases h),(fun h=>by cases h),(fun h=>by cases h),(fun h=>by cases h),by rw [if_neg (by simp)]⟩
end
end Go.Proofs.Ytpfploolkmcalaa.AM
end
section
namespace Go.Proofs.Ytpfploolkmcalaa.AM
open Go Go.RowKit
set_option linter.unusedSectionVars false
set_option linter.unusedSimpArgs false
set_option linter.unusedVariables false
def dstAt(ops:Array Oper)(j:Nat) :Option Nat:=(ops[j]?).bind (·.dst)
def lastW(ops:Array Oper)(val:Nat→Value)(e0:Env)(S:Nat→Bool)(t:Nat) :Nat→Value
 | 0=>e0.get t
 | n+1=>if S n=true∧dstAt ops n=some t then val n else lastW ops val e0 S t n
section
variable {ops:Array Oper} {val:Nat→Value} {e0:Env} {S T:Nat→Bool} {t:Nat}
theorem lastW_congr :∀(n:Nat),(∀j,j<n→dstAt ops j=some t→(S j=true↔T j=true))→lastW ops val e0 S t n=lastW ops val e0 T t n
 | 0,_=>rfl
 | n+1,h=>by
  rw [lastW,lastW,lastW_congr n (fun j hj=>h j (by omega))]
  by_cases hd:dstAt ops n=some t
  ·have:=h n (by omega) hd
   simp only [hd,and_true,this]
  ·simp [hd]
theorem lastW_cut(i:Nat) :∀(n:Nat),i≤n→(∀j,i≤j→j<n→dstAt ops j=some t→S j=false)→lastW ops val e0 S t n=lastW ops val e0 S t i
  | 0, h, _ => by have : i = 0 := by omega
                  subst this; rfl
  | n+1,h,hs=>by
    by_cases e:i=n+1
    · subst e; rfl
    · rw [lastW]
      have:¬(S n=true∧dstAt ops n=some t):=fun ⟨a,b⟩=>by
        have:=hs n (by omega) (by omega) b
        rw [this] at a
        cases a
      rw [if_neg this]
      exact lastW_cut i n (by omega) (fun j h1 h2=>hs j h1 (by omega))
end
section
variable {B:Nat} {W:World} {P:Program} {H:Hint} {call:FuncId→List Value→Hp→Option (Value×Hp)}
theorem wanted_of{ρ:Places}{ops:Array Oper}{o:Oper}{e:Env}{a:Act}{b:Bool}(hg:guardB ops o e=some b)(hr:∀t∈o.looksAt ops,VRel B ρ (e.get t) (a.tmps.getD t undef)) :Region.wanted o (yielded ops a.tmps)=b:=by
 unfold guardB at hg
 split at hg
 ·rename_i hgu
  cases hg
  simp [Region.wanted,hgu]
 ·rename_i g want hgu
  split at hg
  ·rename_i d hd
   have hrel:=hr d (by unfold Oper.looksAt; rw [hgu]; simp [hd])
   split at hg
   ·rename_i b2 hb
    cases hg
    rw [hb] at hrel
    have htm:a.tmps[d]? =some (.bool b2):=by
     generalize hq:a.tmps.getD d undef=q at hrel
     cases hrel
     rw [Array.getD_eq_getD_getElem?] at hq
     cases hx:a.tmps[d]? with
     | none=>rw [hx] at hq; cases hq
     | some u=>rw [hx] at hq; simp at hq; rw [hq]
    have hy:yielded ops a.tmps g=some b2:=by
     unfold yielded
     rw [hd]
     simp [htm]
    simp only [Region.wanted,hgu,hy]
    cases b2 <;>cases want <;>rfl
   ·rename_i vs hvs
    cases hem:vs.isEmpty <;>rw [hem] at hg
    ·cases hg
    ·cases hg
     rw [hvs] at hrel
     have hy:yielded ops a.tmps g=none:=by
      unfold yielded
      rw [hd]
      generalize hq:a.tmps.getD d undef=q at hrel
      cases hrel
      rw [Array.getD_eq_getD_getElem?] at hq
      cases hx:a.tmps[d]? with
      | none=>simp [hx]
      | some u=>
       rw [hx] at hq
       simp at hq
       simp [hx,hq]
     simp [Region.wanted,hgu,hy]
   ·cases hg
  ·cases hg
theorem drawC_sound(hq:EqOK P H.eqt)(hc:CallOK P B W call)(hcs:CallStep call){nt:Nat}{ops:Array Oper}(hst:dstsOk nt ops=true)(hd:DrawOK ops){R:Type}{r:R}{K:Env→Hp→Option R}{Q:Exit→Act→World→Prop}
    {ρ:Places} {e:Env} {h:Hp} {a:Act} {w:World} (hk:drawC P H call ops ops.toList 0 e h [h] [] K=some r) (s:Sim B W ρ h w) (hf:FrameRel B ρ nt e a)
    (hQ:∀ρ' e' h' a' w',LeP ρ ρ'→Sim B W ρ' h' w'→FrameRel B ρ' nt e' a'→K e' h'=some r→Q .normal a' w'):
    wpAny P .any ops Q ops.size (Array.replicate ops.size false) a w:=by
  obtain ⟨val,took,E,Hh,Hs,Rs,hE0,hH0,hR0,_,hT,hHs,en,hen,hfin⟩:=trace hd ops.toList 0 e h [h] [] (Nat.zero_le _) rfl rfl rfl hk
  have hT':∀j o,ops[j]? =some o→TraceAt P H call ops Hs j o (val j) (took j) (E j) (E (j+1)) (Hh j) (Hh (j+1)) (Rs j) (Rs (j+1)):=fun j o ho=>hT j o (Nat.zero_le _) ho
  have hHs':∀j,j≤ops.size→Hs (cnt ops (fun _=>true) j)=Hh j:=fun j hj=>hHs j (Nat.zero_le _) hj
  have hEl:∀t j,j≤ops.size→(E j).get t=lastW ops val e (fun _=>true) t j:=by
    intro t j
    induction j with
    | zero=>intro _; exact hE0 t
    | succ j ih=>
      intro hj
      have hlt:j<ops.size:=by omega
      have ho:ops[j]? =some ops[j]:=Array.getElem?_eq_getElem hlt
      rw [(hT' j _ ho).env,get_put,ih (by omega),lastW]
      have hds:dstAt ops j=(ops[j]).dst:=by simp [dstAt,ho]
      rw [hds]
      by_cases hd2:(ops[j]).dst=some t
      · simp [hd2]
      · simp [hd2]
  have hwf0:HpWf h:=⟨fun r b hb=>(s.new_lt hb).2,fun r es hm=>(s.maps_lt hm).2⟩
  have hquiet:∀j o,ops[j]? =some o→actsB o=false→Hh (j+1)=Hh j:=by
    intro j o ho ha
    have tr:=hT' j o ho
    cases hb:took j with
    | false=>exact (tr.skip hb).2
    | true=>
      cases hcl:cls o with
      | pure=>exact (tr.pure hb hcl).1
      | reads=>exact (tr.reads hb hcl).1
      | acts=>simp [actsB,hcl] at ha
  have hwf:∀j,j≤ops.size→HpWf (Hh j):=by
    intro j
    induction j with
    | zero=>intro _; rw [hH0]; exact hwf0
    | succ j ih=>
      intro hj
      have hlt:j<ops.size:=by omega
      have ho:ops[j]? =some ops[j]:=Array.getElem?_eq_getElem hlt
      have tr:=hT' j _ ho
      have hw:=ih (by omega)
      cases hb:took j with
      | false=>rw [(tr.skip hb).2]; exact hw
      | true=>
        cases hcl:cls ops[j] with
        | pure=>rw [(tr.pure hb hcl).1]; exact hw
        | reads=>rw [(tr.reads hb hcl).1]; exact hw
        | acts=>
          cases hbr:besideRead ops j with
          | false=>exact (opC_step hcs (tr.acts hb hcl hbr)).1.wf hw
          | true=>
            obtain ⟨g2,k1,k2,k3⟩:=tr.acts2 hb hcl hbr
            rw [k3]
            exact (relow_step (opC_step hcs k1).1).wf hw
  have hRs:∀j,j≤ops.size→∀i q,(i,q)∈Rs j→i<j∧∃o,ops[i]? =some o∧readBlk o (E i)=some q:=by
    intro j
    induction j with
    | zero=>intro _ i q hm; rw [hR0] at hm; cases hm
    | succ j ih=>
      intro hj i q hm
      have hlt:j<ops.size:=by omega
      have ho:ops[j]? =some ops[j]:=Array.getElem?_eq_getElem hlt
      have tr:=hT' j _ ho
      rw [tr.notes] at hm
      have hih:=ih (by omega) i q
      split at hm
      · unfold noteR at hm
        split at hm
        · rename_i q2 hq2
          rcases List.mem_cons.1 hm with e0 | hm
          · cases e0
            exact ⟨by omega,_,ho,hq2⟩
          · obtain ⟨k1,k2⟩:=hih hm
            exact ⟨by omega,k2⟩
        · obtain ⟨k1,k2⟩:=hih hm
          exact ⟨by omega,k2⟩
      · obtain ⟨k1,k2⟩:=hih hm
        exact ⟨by omega,k2⟩
  have hh0:∀r,(Hh 0).hole r=true→r<(Hh 0).next:=by
    intro r hr
    rw [hH0] at hr ⊢
    exact (s.free r hr).2.1
  have hactB:∀j o,ops[j]? =some o→isAct ops j=actsB o:=fun j o ho=>by unfold isAct; rw [ho]; rfl
  have hmkB:∀j o,ops[j]? =some o→isMk ops j=newO o:=fun j o ho=>by unfold isMk; rw [ho]; rfl
  have hstepj:∀j,j<ops.size→(Hh (j+1)).hole=(Hh j).hole∧(Hh j).next≤(Hh (j+1)).next:=by
    intro j hlt
    have ho:ops[j]? =some ops[j]:=Array.getElem?_eq_getElem hlt
    have tr:=hT' j _ ho
    cases hb:took j with
    | false=>rw [(tr.skip hb).2]; exact ⟨rfl,Nat.le_refl _⟩
    | true=>
      cases hcl:cls ops[j] with
      | pure=>rw [(tr.pure hb hcl).1]; exact ⟨rfl,Nat.le_refl _⟩
      | reads=>rw [(tr.reads hb hcl).1]; exact ⟨rfl,Nat.le_refl _⟩
      | acts=>
        cases hbr:besideRead ops j with
        | false=>
          have st:=(opC_step hcs (tr.acts hb hcl hbr)).1
          exact ⟨st.hole,st.next⟩
        | true=>
          obtain ⟨g2,k1,k2,k3⟩:=tr.acts2 hb hcl hbr
          have st:=(opC_step hcs k1).1
          rw [k3]
          exact ⟨st.hole,st.next⟩
  have hbesideN:∀j o,ops[j]? =some o→newO o=true→besideRead ops j=false:=by
    intro j o ho hn
    unfold besideRead
    rw [ho]
    simp [(new_not_wild hn).1]
  have hclsN:∀o,newO o=true→cls o= .acts:=by
    intro o hn
    have:=(new_not_wild hn).2.1
    unfold actsB at this
    split at this
    · assumption
    · cases this
  have rn:RunOK ops took Hh:=by
    refine ⟨fun j hlt ha=> ?_,fun j hlt ht=> ?_,fun j hlt hm ht=> ?_,hwf,fun j hj=> ?_,fun j hlt=>(hstepj j hlt).2⟩
    · have ho:ops[j]? =some ops[j]:=Array.getElem?_eq_getElem hlt
      rw [hactB j _ ho] at ha
      exact hquiet j _ ho ha
    · exact ((hT' j _ (Array.getElem?_eq_getElem hlt)).skip ht).2
    · have ho:ops[j]? =some ops[j]:=Array.getElem?_eq_getElem hlt
      rw [hmkB j _ ho] at hm
      exact mk_form hm ((hT' j _ ho).acts ht (hclsN _ hm) (hbesideN j _ ho hm))
    · induction j with
      | zero=>rfl
      | succ j ih=>rw [(hstepj j (by omega)).1]; exact ih (by omega)
  have main:∀(fuel:Nat) (listed:Array Bool) (ρ':Places) (a:Act) (w:World),listed.size=ops.size→((List.range ops.size).filter fun j=> !listed.getD j false).length=fuel→Closed ops (fun j=>listed.getD j false)→
      (∀t,VRel B ρ' (lastW ops val e (fun j=>listed.getD j false) t ops.size) (a.tmps.getD t undef))→a.tmps.size=nt→a.defers=[]→Sim B W ρ' (heapS ops took Hh (fun j=>listed.getD j false) (front ops (fun j=>listed.getD j false) ops.size)) w→LeP ρ ρ'→wpAny P .any ops Q fuel listed a w:=by
    intro fuel
    induction fuel with
    | zero=>
      intro listed ρ' a w hsz hfuel hcl hen2 hts hdf hsim hle
      have hall:∀j,j<ops.size→listed.getD j false=true:=by
        intro j hj
        cases hb:listed.getD j false with
        | true=>rfl
        | false=>
          have:j∈(List.range ops.size).filter fun j=> !listed.getD j false:=by
            rw [List.mem_filter]
            exact ⟨by simpa using hj,by rw [hb]; rfl⟩
          rw [List.length_eq_zero_iff] at hfuel
          rw [hfuel] at this
          cases this
      refine ⟨?_, ?_⟩
      · cases hr:Region.ready .any ops listed with
        | nil=>rfl
        | cons i l=>
          have:i∈Region.ready .any ops listed:=by rw [hr]; simp
          obtain ⟨h1,o,h2,_⟩:=mem_ready.1 this
          have hlt:i<ops.size:=by
            rcases Nat.lt_or_ge i ops.size with h | h
            · exact h
            · rw [Array.getElem?_eq_none h] at h2; cases h2
          have:=hall i hlt
          simp only [Array.getD_eq_getD_getElem?] at this h1
          rw [Array.getElem?_eq_getElem (by omega)] at this h1
          simp at this h1
          rw [this] at h1
          cases h1
      · have e1:∀t,lastW ops val e (fun j=>listed.getD j false) t ops.size=(E ops.size).get t:=by
          intro t
          rw [hEl t ops.size (Nat.le_refl _)]
          exact lastW_congr _ fun j hj _=>⟨fun _=>rfl,fun _=>hall j hj⟩
        obtain ⟨f1,_,f3⟩:=front_spec ops (fun j=>listed.getD j false) ops.size
        have e2:front ops (fun j=>listed.getD j false) ops.size=ops.size:=by
          rcases Nat.lt_or_ge (front ops (fun j=>listed.getD j false) ops.size) ops.size with hlt | hge
          · have:=(f3 hlt).2.2
            rw [hall _ hlt] at this
            cases this
          · omega
        rw [e2,heapS_all _ fun j hj _ _=>hall j hj] at hsim
        exact hQ ρ' en (Hh ops.size) a w hle hsim ⟨fun t=>by rw [hen,←e1]; exact hen2 t,hts,hdf⟩ hfin
    | succ fuel ih=>
      intro listed ρ' a w hsz hfuel hcl hen2 hts hdf hsim hle
      have hSlt:∀j,listed.getD j false=true→j<ops.size:=by
        intro j hj
        rcases Nat.lt_or_ge j listed.size with h | h
        · omega
        · rw [Array.getD_eq_getD_getElem?,Array.getElem?_eq_none h] at hj
          cases hj
      have hgetT:∀j,j<ops.size→listed.getD j true=listed.getD j false:=by
        intro j hj
        simp only [Array.getD_eq_getD_getElem?]
        rw [Array.getElem?_eq_getElem (by omega)]
        rfl
      refine ⟨?_, ?_⟩
      · -- something is ready
        intro hr
        exfalso
        have hex:∃j,j<ops.size∧listed.getD j false=false:=by
          cases hl:(List.range ops.size).filter fun j=> !listed.getD j false with
          | nil=>rw [hl] at hfuel; simp at hfuel
          | cons j l=>
            have:j∈(List.range ops.size).filter fun j=> !listed.getD j false:=by rw [hl]; simp
            rw [List.mem_filter] at this
            exact ⟨j,by simpa using this.1,by simpa using this.2⟩
        obtain ⟨j0,hj0,hl0⟩:=hex
        have:∀j,j<ops.size→listed.getD j false=false→False:=by
          intro j
          induction j using Nat.strongRecOn with
          | _ j ihj=>
            intro hj hlj
            have ho:ops[j]? =some ops[j]:=Array.getElem?_eq_getElem hj
            have:j∈Region.ready .any ops listed:=by
              refine mem_ready.2 ⟨by rw [hgetT j hj]; exact hlj,ops[j],ho,fun e2 he2 hb2=> ?_⟩
              have hlt:=hd.lt j _ e2 ho he2 hb2
              cases hq2:listed.getD e2.on false with
              | true=>rfl
              | false=>exact (ihj e2.on hlt (by omega) hq2).elim
            rw [hr] at this
            cases this
        exact this j0 hj0 hl0
      · intro i hir
        obtain ⟨hnl,o,ho,hpre⟩:=mem_ready.1 hir
        have hilt:i<ops.size:=by
          rcases Nat.lt_or_ge i ops.size with h | h
          · exact h
          · rw [Array.getElem?_eq_none h] at ho; cases ho
        rw [hgetT i hilt] at hnl
        have tr:=hT' i o ho
        have hmem:o∈ops.toList:=List.mem_of_getElem? (by simpa using ho)
        have hso:=List.all_eq_true.1 hst o hmem
        simp only [Bool.and_eq_true] at hso
        have hdst:∀x,o.dst=some x→x<nt:=by
          intro x hx
          have:=hso.1
          rw [hx] at this
          exact of_decide_eq_true this
        have hslot:∀t,(t∈o.looksAt ops∨o.dst=some t)→∀j y,ops[j]? =some y→y.dst=some t→j ≠i→(listed.getD j false=true↔j<i):=by
          intro t ht j y hy hyd hne
          have hord:∀p q x z,p<q→ops[p]? =some x→ops[q]? =some z→((p=i∧q=j)∨(p=j∧q=i))→((Region.before ops).getD q 0).testBit p=true:=by
            intro p q x z hpq hx hz hpj
            rcases hd.pair p q x z hpq hx hz with h | ⟨hap,_⟩
            · exact h
            · exfalso
              obtain ⟨a1,a2,a3⟩:=Oper.apart_spec hap
              rcases hpj with ⟨rfl,rfl⟩ | ⟨rfl,rfl⟩
              · rw [ho] at hx; cases hx
                rw [hy] at hz; cases hz
                rcases ht with ht | ht
                · exact a3 t hyd ht
                · exact a2 t ht hyd
              · rw [hy] at hx; cases hx
                rw [ho] at hz; cases hz
                rcases ht with ht | ht
                · exact a1 t hyd ht
                · exact a2 t hyd ht
          exact ready_pairs hd hcl ho hnl hpre hy hne (fun h=>hord i j o y h ho hy (.inl ⟨rfl,rfl⟩)) (fun h=>hord j i y o h hy ho (.inr ⟨rfl,rfl⟩))
        have hdy:∀j t,dstAt ops j=some t→∃y,ops[j]? =some y∧y.dst=some t:=by
          intro j t hj
          unfold dstAt at hj
          obtain ⟨y,h1,h2⟩:=Option.bind_eq_some_iff.1 hj
          exact ⟨y,h1,h2⟩
        have hlook:∀t∈o.looksAt ops,VRel B ρ' ((E i).get t) (a.tmps.getD t undef):=by
          intro t ht
          rw [hEl t i (by omega)]
          have e1:lastW ops val e (fun j=>listed.getD j false) t ops.size=lastW ops val e (fun j=>listed.getD j false) t i:=
            lastW_cut i _ (by omega) fun j h1 h2 h3=>by
              obtain ⟨y,hy,hyd⟩:=hdy j t h3
              by_cases e0:j=i
              · subst e0; exact hnl
              · have:=hslot t (.inl ht) j y hy hyd e0
                cases hb:listed.getD j false with
                | false=>rfl
                | true=>have:=this.1 hb; omega
          have e2:lastW ops val e (fun j=>listed.getD j false) t i=lastW ops val e (fun _=>true) t i:=
            lastW_congr i fun j h1 h3=>by
              obtain ⟨y,hy,hyd⟩:=hdy j t h3
              have:=hslot t (.inl ht) j y hy hyd (by omega)
              exact ⟨fun _=>rfl,fun _=>this.2 h1⟩
          rw [←e2,←e1]
          exact hen2 t
        have hops:∀x∈o.op.operands.toList,VRel B ρ' ((E i).eval x) (a.eval x):=by
          intro x hx
          have hok:=List.all_eq_true.1 hso.2 x hx
          cases x with
          | tmp t=>exact hlook t (by unfold Oper.looksAt; rw [List.mem_append]; exact .inl (by rw [List.mem_filterMap]; exact ⟨_,hx,rfl⟩))
          | const v=>exact rel_plain hok
          | global g=>cases hok
          | func f=>exact .func _ .nil .nil
        have hwant:=wanted_of (B:=B) (ρ:=ρ') tr.guard hlook
        have hS':∀j,(listed.setIfInBounds i true).getD j false=if j=i then true else listed.getD j false:=by
          intro j
          simp only [Array.getD_eq_getD_getElem?]
          by_cases e0:j=i
          · subst e0
            rw [Array.getElem?_setIfInBounds_self_of_lt (by omega)]
            simp
          · rw [Array.getElem?_setIfInBounds_ne (Ne.symm e0)]
            simp [e0]
        have hcl':Closed ops (fun j=>(listed.setIfInBounds i true).getD j false):=by
          intro j y hy hj e2 he2 hb2
          simp only [hS'] at hj ⊢
          by_cases e0:e2.on=i
          · simp [e0]
          · rw [if_neg e0]
            by_cases e1:j=i
            · subst e1
              rw [ho] at hy; cases hy
              exact hpre e2 he2 hb2
            · rw [if_neg e1] at hj
              exact hcl j y hy hj e2 he2 hb2
        have hfuel':((List.range ops.size).filter fun j=> !(listed.setIfInBounds i true).getD j false).length=fuel:=by
          have:∀(n:Nat),((List.range n).filter fun j=> !listed.getD j false).length=((List.range n).filter fun j=> !(listed.setIfInBounds i true).getD j false).length+(if i<n then 1 else 0):=by
            intro n
            induction n with
            | zero=>simp
            | succ n ihn=>
              rw [List.range_succ,List.filter_append,List.filter_append,List.length_append,List.length_append,ihn]
              have:=hS' n
              by_cases e0:n=i
              · subst e0
                rw [if_pos rfl] at this
                simp only [List.filter_cons,List.filter_nil,this,hnl]
                simp
              · rw [if_neg e0] at this
                simp only [List.filter_cons,List.filter_nil,this]
                have e1:(if i<n then 1 else 0)=(if i<n+1 then 1 else 0):=by
                  by_cases e2:i<n
                  · rw [if_pos e2,if_pos (by omega)]
                  · rw [if_neg e2,if_neg (by omega)]
                rw [e1]
                omega
          have:=this ops.size
          rw [hfuel,if_pos hilt] at this
          omega
        have henv':∀(ρ2:Places) (v':Value),LeP ρ' ρ2→VRel B ρ2 (val i) v'→∀t,VRel B ρ2 (lastW ops val e (fun j=>(listed.setIfInBounds i true).getD j false) t ops.size) ((a.put o.dst v').tmps.getD t undef):=by
          intro ρ2 v' hle2 hv2 t
          have hdi:dstAt ops i=o.dst:=by simp [dstAt,ho]
          by_cases hdt:o.dst=some t
          · have e1:lastW ops val e (fun j=>(listed.setIfInBounds i true).getD j false) t ops.size=lastW ops val e (fun j=>(listed.setIfInBounds i true).getD j false) t (i+1):=
              lastW_cut (i+1) _ (by omega) fun j h1 h2 h3=>by
                obtain ⟨y,hy,hyd⟩:=hdy j t h3
                have:=hslot t (.inr hdt) j y hy hyd (by omega)
                rw [hS',if_neg (by omega)]
                cases hb:listed.getD j false with
                | false=>rfl
                | true=>have:=this.1 hb; omega
            rw [e1,lastW,if_pos ⟨by rw [hS',if_pos rfl],by rw [hdi]; exact hdt⟩]
            have hlt:t<a.tmps.size:=by rw [hts]; exact hdst t hdt
            rw [hdt]
            simp [Act.put,Array.getD,hlt]
            exact hv2
          · have e1:lastW ops val e (fun j=>(listed.setIfInBounds i true).getD j false) t ops.size=lastW ops val e (fun j=>listed.getD j false) t ops.size:=
              lastW_congr _ fun j h1 h3=>by
                have hne:j ≠i:=fun e0=>by subst e0; rw [hdi] at h3; exact hdt h3
                simp only [hS',if_neg hne]
            rw [e1]
            have e2:(a.put o.dst v').tmps.getD t undef=a.tmps.getD t undef:=by
              cases hx:o.dst with
              | none=>rfl
              | some x=>
                have hne:x ≠t:=fun e0=>hdt (by rw [hx,e0])
                simp only [Act.put,Array.getD_eq_getD_getElem?]
                rw [Array.getElem?_setIfInBounds_ne hne]
            rw [e2]
            exact (hen2 t).mono hle2
        have hput:∀v',(a.put o.dst v').tmps.size=nt∧(a.put o.dst v').defers=[]:=by
          intro v'
          cases o.dst <;>simp [Act.put,hts,hdf]
        have cont:∀(ρ2:Places) (v':Value) (w':World),LeP ρ' ρ2→VRel B ρ2 (val i) v'→Sim B W ρ2 (heapS ops took Hh (fun j=>(listed.setIfInBounds i true).getD j false) (front ops (fun j=>(listed.setIfInBounds i true).getD j false) ops.size)) w'→
            wpAny P .any ops Q fuel (listed.setIfInBounds i true) (a.put o.dst v') w':=by
          intro ρ2 v' w' hle2 hv2 hs2
          exact ih _ ρ2 _ _ (by simp [hsz]) hfuel' hcl' (henv' ρ2 v' hle2 hv2) (hput v').1 (hput v').2 hs2 (hle.trans hle2)
        have hordN:∀p q x y,p<q→ops[p]? =some x→ops[q]? =some y→actsB x=true→actsB y=true→(newO x=false∨newO y=false)→((Region.before ops).getD q 0).testBit p=true:=by
          intro p q x y hpq hx hy hax hay hnn
          rcases hd.pair p q x y hpq hx hy with h | ⟨_,hn,_⟩
          · exact h
          · obtain ⟨n1,n2⟩:=hn hax hay
            rcases hnn with h | h
            · rw [n1] at h; cases h
            · rw [n2] at h; cases h
        have hactsord:actsB o=true→newO o=false→∀j,j<ops.size→j ≠i→isAct ops j=true→(listed.getD j false=true↔j<i):=by
          intro hoa hno j hj hne hja
          have hy:ops[j]? =some ops[j]:=Array.getElem?_eq_getElem hj
          rw [hactB j _ hy] at hja
          exact ready_pairs hd hcl ho hnl hpre hy hne (fun h=>hordN i j o _ h ho hy hoa hja (.inl hno)) (fun h=>hordN j i _ o h hy ho hja hoa (.inr hno))
        have hsame:(actsB o=false∨(newO o=true∧took i=false))→heapS ops took Hh (fun j=>(listed.setIfInBounds i true).getD j false) (front ops (fun j=>(listed.setIfInBounds i true).getD j false) ops.size)=heapS ops took Hh (fun j=>listed.getD j false) (front ops (fun j=>listed.getD j false) ops.size):=by
          intro hoa
          have e1:front ops (fun j=>(listed.setIfInBounds i true).getD j false) ops.size=front ops (fun j=>listed.getD j false) ops.size:=front_congr _ fun j hj ha hm=>by
            have hne:j ≠i:=fun e0=>by
              subst e0
              rw [hactB j _ ho] at ha
              rw [hmkB j _ ho] at hm
              rcases hoa with h | ⟨h,_⟩
              · rw [ha] at h; cases h
              · rw [hm] at h; cases h
            simp only [hS',if_neg hne]
          rw [e1]
          refine heapS_congr fun j hj hm ht=> ?_
          have hne:j ≠i:=fun e0=>by
            subst e0
            rcases hoa with h | ⟨_,h⟩
            · have:=mk_act hm
              rw [hactB j _ ho,h] at this
              cases this
            · rw [ht] at h; cases h
          simp only [hS',if_neg hne]
        have hfront:actsB o=true→newO o=false→front ops (fun j=>listed.getD j false) ops.size=i∧heapS ops took Hh (fun j=>listed.getD j false) i=Hh i:=by
          intro hoa hno
          obtain ⟨f1,f2,f3⟩:=front_spec ops (fun j=>listed.getD j false) ops.size
          have hord:=hactsord hoa hno
          constructor
          · rcases Nat.lt_trichotomy (front ops (fun j=>listed.getD j false) ops.size) i with hlt | he | hgt
            · obtain ⟨g1,g2,g3⟩:=f3 (by omega)
              have:=(hord _ (by omega) (by omega) g1).2 hlt
              rw [this] at g3
              cases g3
            · exact he
            · rcases f2 i hgt (by rw [hactB i _ ho]; exact hoa) with h | h
              · rw [hmkB i _ ho,hno] at h; cases h
              · rw [hnl] at h; cases h
          · exact heapS_all _ fun j hj hm _=>(hord j (by omega) (by omega) (mk_act hm)).2 hj
        have hbehind:∀(ρ2:Places) (w2:World),actsB o=true→newO o=false→Sim B W ρ2 (Hh (i+1)) w2→Sim B W ρ2 (heapS ops took Hh (fun j=>(listed.setIfInBounds i true).getD j false) (front ops (fun j=>(listed.setIfInBounds i true).getD j false) ops.size)) w2:=by
          intro ρ2 w2 hoa hno s2
          have hord:=hactsord hoa hno
          obtain ⟨f1,f2,f3⟩:=front_spec ops (fun j=>(listed.setIfInBounds i true).getD j false) ops.size
          have hge:i+1≤front ops (fun j=>(listed.setIfInBounds i true).getD j false) ops.size:=by
            rcases Nat.lt_or_ge (front ops (fun j=>(listed.setIfInBounds i true).getD j false) ops.size) (i+1) with hlt | hge
            · obtain ⟨g1,g2,g3⟩:=f3 (by omega)
              have g4:=(hS' (front ops (fun j=>(listed.setIfInBounds i true).getD j false) ops.size)).symm.trans g3
              split at g4
              · cases g4
              · rename_i hne
                have:=(hord _ (by omega) hne g1).2 (by omega)
                rw [this] at g4
                cases g4
            · exact hge
          refine Sim.reserve rn hge f1 (fun j hj1 hj2 ha=> ?_) (fun j hj _=> ?_) (fun j hj hm _=> ?_) s2
          · rcases f2 j hj2 ha with h | h
            · exact h
            · simp only [hS'] at h
              rw [if_neg (by omega)] at h
              have:=(hord j (by omega) (by omega) ha).1 h
              omega
          · rename_i hm
            simp only [hS']
            rw [if_neg (by omega)]
            cases hb:listed.getD j false with
            | false=>rfl
            | true=>
              have hjl:=hSlt j hb
              have:=(hord j hjl (by omega) (mk_act hm)).1 hb
              omega
          · simp only [hS']
            by_cases e0:j=i
            · simp [e0]
            · rw [if_neg e0]
              exact (hord j (by omega) e0 (mk_act hm)).2 (by omega)
        unfold wpOp
        rw [ho]
        dsimp only
        rw [hwant]
        cases hb:took i with
        | false=>
          rw [if_neg (by simp)]
          obtain ⟨hv0,hg0⟩:=tr.skip hb
          have hval:val i=undef:=hv0
          refine cont ρ' undef w (LeP.refl _) (by rw [hval]; exact .tuple .nil) ?_
          cases hoa:actsB o with
          | false=>rw [hsame (.inl hoa)]; exact hsim
          | true=>
            cases hno:newO o with
            | true=>rw [hsame (.inr ⟨hno,hb⟩)]; exact hsim
            | false=>
              obtain ⟨k1,k2⟩:=hfront hoa hno
              rw [k1,k2] at hsim
              exact hbehind ρ' w hoa hno (by rw [hg0]; exact hsim)
        | true=>
          rw [if_pos rfl]
          left
          cases hcls:cls o with
          | pure=>
            have hoa:actsB o=false:=by simp [actsB,hcls]
            have hp:=opC_pure_some (heapS ops took Hh (fun j=>listed.getD j false) (front ops (fun j=>listed.getD j false) ops.size)) hcls (tr.pure hb hcls).2
            refine op_wp' hq hc hsim hops hp ?_
            rintro v' w' ⟨ρ2,hle2,s2,hv2⟩
            exact cont ρ2 v' w' hle2 hv2 (by rw [hsame (.inl hoa)]; exact s2)
          | reads=>
            have hoa:actsB o=false:=by simp [actsB,hcls]
            have hor:readsB o=true:=by simp [readsB,hcls]
            cases hlb:lenB o with
            | true=>
              refine op_wp' hq hc hsim hops (opC_free hlb ((tr.reads hb hcls).2.2 hlb) (tr.reads hb hcls).2.1) ?_
              rintro v' w' ⟨ρ2,hle2,s2,hv2⟩
              exact cont ρ2 v' w' hle2 hv2 (by rw [hsame (.inl hoa)]; exact s2)
            | false=>
            have horM:readsM o=true:=by unfold readsM; rw [hor,hlb]; rfl
            have hleH:(match readBlk o (E i) with | some q=>HpLeB q (Hs (actsAhead ops i)) (heapS ops took Hh (fun j=>listed.getD j false) (front ops (fun j=>listed.getD j false) ops.size)) | none=>HpLe (Hs (actsAhead ops i)) (heapS ops took Hh (fun j=>listed.getD j false) (front ops (fun j=>listed.getD j false) ops.size))):=by
              have hinS:∀q,((Region.before ops).getD i 0).testBit q=true→listed.getD q false=true:=closed_before hcl hd.lt i o ho hpre
              obtain ⟨j1,hj1,hx1⟩:=acts_prefix (ops:=ops) (X:=fun j=>((Region.before ops).getD i 0).testBit j) (fun p q hpq hpa hqa hq=>by
                have hql:q<ops.size:=by
                  rcases Nat.lt_or_ge q ops.size with h | h
                  · exact h
                  · rw [Array.getElem?_eq_none h] at hqa; cases hqa
                exact hd.rd i o p q ho hor hpq hql hpa hqa hq) ops.size
              have e1:actsAhead ops i=cnt ops (fun _=>true) j1:=by
                rw [actsAhead_cnt,cnt_congr ops (T:=upTo j1) _ (fun q hq hqa=>by simp only [upTo,decide_eq_true_eq]; exact hx1 q hq hqa),cnt_upTo ops _ _ hj1,cnt_full]
              rw [e1,hHs' _ hj1]
              obtain ⟨f1,f2,f3⟩:=front_spec ops (fun j=>listed.getD j false) ops.size
              have hj1m:j1≤front ops (fun j=>listed.getD j false) ops.size:=by
                rcases Nat.lt_or_ge (front ops (fun j=>listed.getD j false) ops.size) j1 with hlt | hge
                · obtain ⟨g1,g2,g3⟩:=f3 (by omega)
                  have:=hinS _ ((hx1 _ (by omega) g1).2 hlt)
                  rw [this] at g3
                  cases g3
                · exact hge
              let LR:Hp→Hp→Prop:=fun a b=>match readBlk o (E i) with | some q=>HpLeB q a b | none=>HpLe a b
              have lr_of:∀a b,HpLe a b→LR a b:=fun a b x=>by
                show (match readBlk o (E i) with | some q=>HpLeB q a b | none=>HpLe a b)
                cases readBlk o (E i) with
                | none=>exact x
                | some q=>exact x.one q
              have lr_trans:∀a b c,LR a b→LR b c→LR a c:=fun a b c x y=>by
                show (match readBlk o (E i) with | some q=>HpLeB q a c | none=>HpLe a c)
                have x':(match readBlk o (E i) with | some q=>HpLeB q a b | none=>HpLe a b):=x
                have y':(match readBlk o (E i) with | some q=>HpLeB q b c | none=>HpLe b c):=y
                revert x' y'
                cases readBlk o (E i) with
                | none=>exact fun x y=>HpLe.trans x y
                | some q=>exact fun x y=>HpLeB.trans x y
              have chain:∀j,j1≤j→j≤front ops (fun j=>listed.getD j false) ops.size→LR (Hh j1) (Hh j):=by
                intro j
                induction j with
                | zero => intro h1 _; have : j1 = 0 := by omega
                          rw [this]; exact lr_of _ _ (HpLe.refl _)
                | succ j ihj=>
                  intro h1 h2
                  by_cases e0:j1=j+1
                  · rw [e0]; exact lr_of _ _ (HpLe.refl _)
                  · have hprev:=ihj (by omega) (by omega)
                    have hjlt:j<ops.size:=by omega
                    have hy:ops[j]? =some ops[j]:=Array.getElem?_eq_getElem hjlt
                    refine lr_trans _ _ _ hprev ?_
                    cases hya:actsB ops[j] with
                    | false=>rw [hquiet j _ hy hya]; exact lr_of _ _ (HpLe.refl _)
                    | true=>
                      have trj:=hT' j _ hy
                      cases htj:took j with
                      | false=>rw [(trj.skip htj).2]; exact lr_of _ _ (HpLe.refl _)
                      | true=>
                        have hclj:cls ops[j]= .acts:=by
                          unfold actsB at hya
                          split at hya
                          · assumption
                          · cases hya
                        have hya':((ops[j]?).map actsB).getD false=true:=by rw [hy]; simpa using hya
                        cases hnj:newO ops[j] with
                        | true=>
                          have hmk:makesB ops[j]=true:=by
                            unfold newO at hnj
                            unfold makesB
                            split at hnj <;>first | (cases hnj; done) | (rename_i heq; rw [heq])
                          exact lr_of _ _ ((opC_step hcs (trj.acts htj hclj (hbesideN j _ hy hnj))).2 hmk (new_not_wild hnj).1 (hwf j (by omega)))
                        | false=>
                      have hSj:listed.getD j false=true:=by
                        rcases f2 j (by omega) (by rw [hactB j _ hy]; exact hya) with h | h
                        · rw [hmkB j _ hy,hnj] at h; cases h
                        · exact h
                      have hnb:((Region.before ops).getD i 0).testBit j=false:=by
                        cases hb2:((Region.before ops).getD i 0).testBit j with
                        | false=>rfl
                        | true=>have:=(hx1 j hjlt hya').1 hb2; omega
                      have hnb2:((Region.before ops).getD j 0).testBit i=false:=by
                        cases hb2:((Region.before ops).getD j 0).testBit i with
                        | false=>rfl
                        | true=>
                          have:=closed_before hcl hd.lt j _ hy (hcl j _ hy hSj) i hb2
                          rw [hnl] at this
                          cases this
                      have hji:j ≠i:=fun e0=>by subst e0; rw [hnl] at hSj; cases hSj
                      have hmk:makesB ops[j]=true:=by
                        rcases Nat.lt_or_gt_of_ne hji with hlt | hgt
                        · rcases hd.pair j i _ o hlt hy ho with h | ⟨_,_,_,h⟩
                          · rw [hnb] at h; cases h
                          · exact h hya hor
                        · rcases hd.pair i j o _ hgt ho hy with h | ⟨_,_,h,_⟩
                          · rw [hnb2] at h; cases h
                          · exact h hor hya
                      cases hcb:wildB ops[j] with
                      | false=>
                        have hbr:besideRead ops j=false:=by
                          unfold besideRead
                          rw [hy]
                          simp [hcb]
                        exact lr_of _ _ ((opC_step hcs (trj.acts htj hclj hbr)).2 hmk hcb (hwf j (by omega)))
                      | true=>
                        have hbr:besideRead ops j=true:=by
                          unfold besideRead
                          rw [hy]
                          simp only [Option.map_some,hcb,Option.getD_some,Bool.true_and,List.any_eq_true]
                          exact ⟨i,by simpa using hilt,by rw [ho]; simp only [Option.map_some,horM,Option.getD_some,hnb,hnb2]; rfl⟩
                        obtain ⟨g2,k1,k2,k3⟩:=trj.acts2 htj hclj hbr
                        rw [k3]
                        rcases k2 with k2 | k2
                        · exact lr_of _ _ (le_of_low (hwf j (by omega)) (opC_step hcs k1).1 k2 _)
                        · obtain ⟨q,hq1,hq2⟩:=k2 i hilt (by rw [ho]; simpa using horM) hnb2 hnb
                          obtain ⟨_,o2,ho2,hrb⟩:=hRs j (by omega) i q hq1
                          rw [ho] at ho2
                          cases ho2
                          show (match readBlk o (E i) with | some q=>HpLeB q (Hh j) (g2.relow (min (Hh j).low g2.low)) | none=>HpLe (Hh j) (g2.relow (min (Hh j).low g2.low)))
                          rw [hrb]
                          have st:=(opC_step hcs k1).1
                          exact ⟨st.base,st.old,fun b hb=>⟨b,hq2.trans hb,rfl,rfl⟩⟩
              have hch:=chain _ hj1m (Nat.le_refl _)
              have hfin:∀r b,(Hh j1).new r=some b→(heapS ops took Hh (fun j=>listed.getD j false) (front ops (fun j=>listed.getD j false) ops.size)).new r=(Hh (front ops (fun j=>listed.getD j false) ops.size)).new r:=by
                intro r b hb
                have hrl:=(hwf j1 hj1).new r b hb
                unfold heapS
                dsimp only
                rw [if_neg]
                rintro ⟨j,a1,a2,a3,a4,rfl⟩
                have hjl:j<ops.size:=by omega
                rcases Nat.lt_or_ge j j1 with hlt | hge
                · have:=hinS j ((hx1 j hjl (mk_act a2)).2 hlt)
                  have a4:listed.getD j false=false:=a4
                  rw [this] at a4
                  cases a4
                · have:=rn.next_le hge (by omega:j≤ops.size)
                  omega
              have hch':(match readBlk o (E i) with | some q=>HpLeB q (Hh j1) (Hh (front ops (fun j=>listed.getD j false) ops.size)) | none=>HpLe (Hh j1) (Hh (front ops (fun j=>listed.getD j false) ops.size))):=hch
              revert hch'
              cases readBlk o (E i) with
              | none=>exact fun x=>⟨x.base,x.old,fun r b hb=>by rw [hfin r b hb]; exact x.new r b hb,x.maps⟩
              | some q=>exact fun x=>⟨x.base,x.old,fun b hb=>by rw [hfin q b hb]; exact x.new b hb⟩
            have hp:opC P H call (E i).eval o (heapS ops took Hh (fun j=>listed.getD j false) (front ops (fun j=>listed.getD j false) ops.size)) (fun v h=>some (v,h))=some (val i,heapS ops took Hh (fun j=>listed.getD j false) (front ops (fun j=>listed.getD j false) ops.size)):=by
              cases hrb:readBlk o (E i) with
              | none=>
                rw [hrb] at hleH
                exact opC_reads_le hcls hleH (fun a v hav=>hsim.new_old (hsim.old a v (by rw [hleH.old]; exact hav)).1) (tr.reads hb hcls).2.1
              | some q=>
                rw [hrb] at hleH
                exact opC_load_le hrb hleH (fun a v hav=>hsim.new_old (hsim.old a v (by rw [hleH.old]; exact hav)).1) (tr.reads hb hcls).2.1
            refine op_wp' hq hc hsim hops hp ?_
            rintro v' w' ⟨ρ2,hle2,s2,hv2⟩
            exact cont ρ2 v' w' hle2 hv2 (by rw [hsame (.inl hoa)]; exact s2)
          | acts=>
            have hoa:actsB o=true:=by simp [actsB,hcls]
            cases hno:newO o with
            | true=>
              have hmki:isMk ops i=true:=by rw [hmkB i _ ho]; exact hno
              have hk:=tr.acts hb hcls (hbesideN i _ ho hno)
              obtain ⟨f1,f2,f3⟩:=front_spec ops (fun j=>listed.getD j false) ops.size
              have him:i<front ops (fun j=>listed.getD j false) ops.size:=by
                rcases Nat.lt_or_ge i (front ops (fun j=>listed.getD j false) ops.size) with h | hge
                · exact h
                · obtain ⟨g1,g2,g3⟩:=f3 (by omega)
                  have hfl:front ops (fun j=>listed.getD j false) ops.size<ops.size:=by omega
                  have hy:ops[front ops (fun j=>listed.getD j false) ops.size]? =some ops[front ops (fun j=>listed.getD j false) ops.size]:=Array.getElem?_eq_getElem hfl
                  have hne:front ops (fun j=>listed.getD j false) ops.size ≠i:=fun e0=>by rw [e0,hmki] at g2; cases g2
                  rw [hmkB _ _ hy] at g2
                  rw [hactB _ _ hy] at g1
                  have hbit:=hordN _ i _ o (by omega) hy ho g1 hoa (.inl g2)
                  have:=closed_before hcl hd.lt i o ho hpre _ hbit
                  rw [this] at g3
                  cases g3
              have hseg:∀j,i<j→j<front ops (fun j=>listed.getD j false) ops.size→isAct ops j=true→isMk ops j=true:=by
                intro j hij hjf ha
                have hjl:j<ops.size:=by omega
                have hy:ops[j]? =some ops[j]:=Array.getElem?_eq_getElem hjl
                cases hm:isMk ops j with
                | true=>rfl
                | false=>
                  rcases f2 j hjf ha with h | h
                  · rw [hm] at h; cases h
                  · rw [hmkB _ _ hy] at hm
                    rw [hactB _ _ hy] at ha
                    have hbit:=hordN i j o _ hij ho hy hoa ha (.inr hm)
                    have:=closed_before hcl hd.lt j _ hy (hcl j _ hy h) i hbit
                    rw [hnl] at this
                    cases this
              obtain ⟨cs0,sz0,he0⟩:=rn.made i hilt hmki hb
              obtain ⟨q1,q2⟩:=heapS_fill rn (S:=fun j=>listed.getD j false) (T:=fun j=>(listed.setIfInBounds i true).getD j false) him f1 hmki hb hnl hS' hseg hh0 he0
              obtain ⟨cs,sz,he,n,v',w',m1,m2,ρ2,hle2,s2,hv2⟩:=maker_sound hsim hops hno hk q1
              have hcs:(Hp.alloc (Hh i) cs sz []).new (Hh i).next=(Hp.alloc (Hh i) cs0 sz0 []).new (Hh i).next:=by rw [←he,←he0]
              rw [alloc_new,if_pos rfl,alloc_new,if_pos rfl] at hcs
              have e1:front ops (fun j=>(listed.setIfInBounds i true).getD j false) ops.size=front ops (fun j=>listed.getD j false) ops.size:=front_congr _ fun j hj ha hm=>by
                have hne:j ≠i:=fun e0=>by rw [e0,hmki] at hm; cases hm
                simp only [hS',if_neg hne]
              refine upon_next m1 m2 (cont ρ2 v' w' hle2 hv2 ?_)
              rw [e1,q2,←Option.some.inj hcs]
              exact s2
            | false=>
              obtain ⟨k1,k2⟩:=hfront hoa hno
              rw [k1,k2] at hsim
              cases hbr:besideRead ops i with
              | false=>
                refine op_wp' hq hc hsim hops (tr.acts hb hcls hbr) ?_
                rintro v' w' ⟨ρ2,hle2,s2,hv2⟩
                exact cont ρ2 v' w' hle2 hv2 (hbehind ρ2 w' hoa hno s2)
              | true=>
                obtain ⟨g2,m1,m2,m3⟩:=tr.acts2 hb hcls hbr
                refine op_wp' hq hc (hsim.relow (Hh i).next) hops m1 ?_
                rintro v' w' ⟨ρ2,hle2,s2,hv2⟩
                refine cont ρ2 v' w' hle2 hv2 (hbehind ρ2 w' hoa hno ?_)
                rw [m3]
                exact s2.relow _
  have hS0:∀j,(Array.replicate ops.size false).getD j false=false:=by
    intro j
    rw [Array.getD_eq_getD_getElem?,Array.getElem?_replicate]
    split <;>rfl
  refine main ops.size _ ρ a w (by simp) ?_ ?_ ?_ hf.size hf.defers ?_ (LeP.refl _)
  · have:(List.range ops.size).filter (fun j=> !(Array.replicate ops.size false).getD j false)=List.range ops.size:=by
      rw [List.filter_eq_self]
      intro j _
      rw [hS0]
      rfl
    rw [this]
    simp
  · intro j y _ hj
    have hj2:(Array.replicate ops.size false).getD j false=true:=hj
    rw [hS0] at hj2
    cases hj2
  · intro t
    have:lastW ops val e (fun j=>(Array.replicate ops.size false).getD j false) t ops.size=e.get t:=by
      rw [lastW_cut 0 _ (Nat.zero_le _) (fun j _ _ _=>hS0 j)]
      rfl
    rw [this]
    exact hf.env t
  · obtain ⟨f1,f2,f3⟩:=front_spec ops (fun j=>(Array.replicate ops.size false).getD j false) ops.size
    refine Sim.reserve rn (Nat.zero_le _) f1 (fun j _ hj ha=> ?_) (fun j _ _=>hS0 j) (fun j hj=>absurd hj (Nat.not_lt_zero _)) (by rw [hH0]; exact s)
    rcases f2 j hj ha with h | h
    · exact h
    · have h:(Array.replicate ops.size false).getD j false=true:=h
      rw [hS0] at h
      cases h
end
end Go.Proofs.Ytpfploolkmcalaa.AM
end
section
namespace Go.Proofs.Ytpfploolkmcalaa.AM
open Go Go.RowKit
set_option linter.unusedSectionVars false
set_option linter.unusedSimpArgs false
set_option linter.unusedVariables false
def exitOf :Ex→Exit
 | .normal=> .normal
 | .exit i=> .exit i
 | .ret=> .ret
theorem wp_loop_n{P:Program}{Q:Exit→Act→World→Prop}{c:Code}(J:Nat→Act→World→Prop)(zero:∀a w,¬J 0 a w)
  (round:∀n a w,J (n+1) a w→c.wp P (Exit.then (fun a' w'=>J n a' w') Q) a w) {n:Nat} {a:Act} {w:World} (h0:J n a w):(Code.loop c).wp P Q a w:=by
 intro b k cs
 have key:∀n a w,J n a w→∃e a' w',Q e a' w'∧Arrives P (lone (b.at a (.code c:: .inLoop c::k)) cs w) b k cs e a' w':=by
  intro n
  induction n with
  | zero=>intro a w h; exact absurd h (zero a w)
  | succ n ih=>
   intro a w hI
   obtain ⟨e,a₁,w₁,hq,harr⟩:=round n a w hI b (.inLoop c::k) cs
   cases e with
   | normal=>
    obtain ⟨e₂,a₂,w₂,hq₂,harr₂⟩:=ih a₁ w₁ hq
    exact ⟨e₂,a₂,w₂,hq₂, .of_steps (Steps.trans harr (.one step_inLoop)) harr₂⟩
   | exit id=>exact ⟨_,a₁,w₁,hq, .pass (x:= .inLoop c) rfl (fun _ _=> .inl (by simp)) harr⟩
   | goto l=>exact ⟨_,a₁,w₁,hq, .pass (x:= .inLoop c) rfl (fun _ _=> .inl (by simp)) harr⟩
   | ret=>exact ⟨_,a₁,w₁,hq, .pass (x:= .inLoop c) rfl (fun _ _=> .inl (by simp)) harr⟩
   | panic ch=>exact ⟨_,a₁,w₁,hq, .pass (x:= .inLoop c) rfl (fun _ _=> .inl (by simp)) harr⟩
   | outgrown=>exact ⟨_,a₁,w₁,hq, .pass (x:= .inLoop c) rfl (fun _ _=> .inl (by simp)) harr⟩
 obtain ⟨e,a',w',hq,harr⟩:=key n a w h0
 exact ⟨e,a',w',hq, .of_steps (.one step_loop) harr⟩
section
variable {B:Nat} {W:World} {P:Program} {H:Hint} {call:FuncId→List Value→Hp→Option (Value×Hp)}
theorem get_keep_or(l:List Nat)(e:Env)(t:Nat) :(e.keep l).get t=e.get t∨(e.keep l).get t=junk:=by
 induction l with
 | nil=>exact .inr rfl
 | cons x l ih=>
  simp only [Env.keep,List.map_cons,Env.get]
  by_cases hx:x=t
  ·subst hx; simp
  ·have:(x==t)=false:=by simpa using hx
   rw [this,cond_false]
   exact ih
theorem FrameRel.mask{ρ:Places}{nt:Nat}{e:Env}{a:Act}(h:FrameRel B ρ nt e a)(f:FuncId)(c:Code) :FrameRel B ρ nt (maskE H f c e) a:=by
 refine ⟨fun t=> ?_,h.size,h.defers⟩
 unfold maskE
 split
 ·split
  ·rename_i l _
   rcases get_keep_or l e t with h1 | h1
   ·rw [h1]; exact h.env t
   ·rw [h1]; exact .junk _
  ·exact h.env t
 ·exact h.env t
theorem codeC_sound(hq:EqOK P H.eqt)(hc:CallOK P B W call)(hcs:CallStep call)(hm:P.follows .mixedOrders=true)(f:FuncId){nt:Nat}(c:Code) :
  ∀{R:Type} {r:R} {K:Ex→Env→Hp→Option R} {Q:Exit→Act→World→Prop} {ρ:Places} {e:Env} {h:Hp} {a:Act} {w:World},codeC P H call f nt c R e h K=some r→Sim B W ρ h w→FrameRel B ρ nt e a→
   (∀ex e' h' ρ' a' w',LeP ρ ρ'→Sim B W ρ' h' w'→FrameRel B ρ' nt e' a'→K ex e' h'=some r→Q (exitOf ex) a' w')→c.wp P Q a w:=by
 induction c with
 | skip=>intro R r K Q ρ e h a w hk s hf hQ; exact wp_skip (hQ .normal e h ρ a w (LeP.refl ρ) s hf hk)
 | label l=>intro R r K Q ρ e h a w hk s hf hQ; exact wp_label (hQ .normal e h ρ a w (LeP.refl ρ) s hf hk)
 | exit i=>intro R r K Q ρ e h a w hk s hf hQ; exact wp_exit (hQ (.exit i) e h ρ a w (LeP.refl ρ) s hf hk)
 | ret=>intro R r K Q ρ e h a w hk s hf hQ; exact wp_ret (hQ .ret e h ρ a w (LeP.refl ρ) s hf hk)
 | region id ops draw=>
  intro R r K Q ρ e h a w hk s hf hQ
  unfold codeC at hk
  cases hd:dstsOk nt ops <;>rw [hd] at hk <;>simp only [cond_true,cond_false] at hk
  ·cases hk
  cases draw <;>simp only [cond_true,cond_false] at hk
  ·refine wp_region ?_
   have:=opsC_sound hq hc hd (Q:=Q) ops.toList 0 ρ e h a w rfl hk s hf (fun ρ' e' h' a' w' hl hs hf hk=>hQ .normal e' h' ρ' a' w' hl hs hf hk)
   rw [List.range_eq_range']
   simpa using this
  ·cases ho:okDraw ops <;>rw [ho] at hk <;>simp only [cond_true,cond_false] at hk
   ·cases hk
   refine wp_region_any hm ?_
   exact drawC_sound hq hc hcs hd (okDraw_ok ho) hk s.drew hf (fun ρ' e' h' a' w' hl hs hf hk=>hQ .normal e' h' ρ' a' w' hl hs hf hk)
 | seq x y ihx ihy=>
  intro R r K Q ρ e h a w hk s hf hQ
  unfold codeC at hk
  refine wp_seq (ihx hk s hf ?_)
  intro ex e' h' ρ' a' w' hl hs hf' hk'
  cases ex with
  | normal=>exact ihy hk' hs (hf'.mask f y) (fun ex2 e2 h2 ρ2 a2 w2 hl2=>hQ ex2 e2 h2 ρ2 a2 w2 (hl.trans hl2))
  | exit i=>exact hQ (.exit i) e' h' ρ' a' w' hl hs hf' hk'
  | ret=>exact hQ .ret e' h' ρ' a' w' hl hs hf' hk'
 | cond x y z ihy ihz=>
  intro R r K Q ρ e h a w hk s hf hQ
  unfold codeC at hk
  split at hk
  ·rename_i t
   split at hk
   ·rename_i b hb
    have hrel:=hf.env t
    rw [hb] at hrel
    have hev:a.eval (.tmp t)= .bool b:=by
     show a.tmps.getD t undef=_
     generalize a.tmps.getD t undef=q at hrel
     cases hrel
     rfl
    have hsame:∀t2,Env.get ((t, .bool b)::e) t2=e.get t2:=by
     intro t2
     simp only [Env.get]
     by_cases h:t=t2
     ·subst h; simp [hb]
     ·have:(t==t2)=false:=by simpa using h
      simp [this]
    split at hk
    ·exact wp_cond_true hev (ihy hk s (hf.same hsame) hQ)
    ·exact wp_cond_false hev (ihz hk s (hf.same hsame) hQ)
   ·cases hk
  ·split at hk
   ·exact wp_cond_true rfl (ihy hk s hf hQ)
   ·exact wp_cond_false rfl (ihz hk s hf hQ)
  ·cases hk
 | block id b ih=>
  intro R r K Q ρ e h a w hk s hf hQ
  unfold codeC at hk
  refine wp_block (ih hk s hf ?_)
  intro ex e' h' ρ' a' w' hl hs hf' hk'
  cases ex with
  | normal=>exact hQ .normal e' h' ρ' a' w' hl hs hf' hk'
  | exit i=>
   simp only [blockK] at hk'
   show (if i=id then Q .normal a' w' else Q (.exit i) a' w')
   by_cases hi:i=id
   ·subst hi
    rw [if_pos rfl]
    exact hQ .normal e' h' ρ' a' w' hl hs hf' (by simpa using hk')
   ·rw [if_neg hi]
    have:(i==id)=false:=by simpa using hi
    rw [this] at hk'
    exact hQ (.exit i) e' h' ρ' a' w' hl hs hf' hk'
  | ret=>exact hQ .ret e' h' ρ' a' w' hl hs hf' hk'
 | loop b ih=>
  intro R r K Q ρ e h a w hk s hf hQ
  unfold codeC at hk
  obtain ⟨q,hq1,hq2⟩:=Option.bind_eq_some_iff.1 hk
  obtain ⟨n,hn⟩:=lfp_some hq1
  refine wp_loop_n (fun n a w=>∃ρ' e h,LeP ρ ρ'∧Sim B W ρ' h w∧FrameRel B ρ' nt e a∧loopN (fun e h=>codeC P H call f nt b Out e h fun ex e h=>some (ex,e,h)) (maskE H f b) n e h=some q) ?_ ?_ ⟨ρ,e,h,LeP.refl ρ,s,hf,hn⟩
  ·rintro a w ⟨_,_,_,_,_,_,h0⟩
   cases h0
  ·rintro n a w ⟨ρ',e',h',hl,hs,hf',hn'⟩
   rw [loopN] at hn'
   obtain ⟨q1,hb1,hb2⟩:=Option.bind_eq_some_iff.1 hn'
   refine ih hb1 hs (hf'.mask f b) ?_
   intro ex e2 h2 ρ2 a2 w2 hl2 hs2 hf2 hk2
   cases hk2
   cases ex with
   | normal=>exact ⟨ρ2,e2,h2,hl.trans hl2,hs2,hf2,hb2⟩
   | exit i=>cases hb2; exact hQ (.exit i) e2 h2 ρ2 a2 w2 (hl.trans hl2) hs2 hf2 hq2
   | ret=>cases hb2; exact hQ .ret e2 h2 ρ2 a2 w2 (hl.trans hl2) hs2 hf2 hq2
 | rangeFunc=>intro R r K Q ρ e h a w hk; cases hk
 | scope b ih=>
  intro R r K Q ρ e h a w hk s hf hQ
  unfold codeC at hk
  refine wp_scope_straight (ih hk s hf ?_)
  intro ex e' h' ρ' a' w' hl hs hf' hk'
  cases ex <;>exact hQ _ e' h' ρ' a' w' hl hs hf' hk'
 | goto=>intro R r K Q ρ e h a w hk; cases hk
 | refuse=>intro R r K Q ρ e h a w hk; cases hk
theorem resC_sound{ρ:Places}{h:Hp}{w:World}(s:Sim B W ρ h w){e:Env}{tmps:Array Value}(he:EnvRel B ρ e tmps)(g:ResultVar→Sem Value)(hg1:∀t,g (.tmp t)=pure (tmps.getD t undef))
  (hg2:∀a t,g (.cell a t)=(do loadVar t (←asAddr (tmps.getD a undef)))):∀(rs:List ResultVar) {R:Type} {r:R} {K:List Value→Option R},resC P h e rs K=some r→∃vs vs',K vs=some r∧VRels B ρ vs vs'∧(rs.mapM g).run P w= .ok vs' w
 | [],R,r,K,hk=>⟨[],[],hk, .nil,rfl⟩
 | .tmp t::rs,R,r,K,hk=>by
  obtain ⟨vs,vs',h1,h2,h3⟩:=resC_sound s he g hg1 hg2 rs hk
  refine ⟨_,_,h1, .cons (he t) h2, ?_⟩
  rw [List.mapM_cons,hg1]
  simp only [Sem.run_bind,Sem.run_pure,Result.andThen_ok,h3]
 | .cell a t::rs,R,r,K,hk=>by
  rw [resC] at hk
  obtain ⟨p,hp,hk⟩:=asPtrC_some hk
  split at hk
  ·rename_i ad
   have hrel:=he a
   rw [hp] at hrel
   obtain ⟨ad',e1,har⟩:=rel_ptr hrel
   obtain ⟨u,u',k1,k2,k3⟩:=loadC_sound (P:=P) s har hk
   obtain ⟨vs,vs',h1,h2,h3⟩:=resC_sound s he g hg1 hg2 rs k1
   refine ⟨_,_,h1, .cons k2 h2, ?_⟩
   rw [List.mapM_cons,hg2,e1]
   simp only [Sem.run_bind,asAddr,Sem.run_pure,Result.andThen_ok,k3,h3]
  ·cases hk
theorem resK_sound{ρ:Places}{h h':Hp}{w:World}(s:Sim B W ρ h w){e:Env}{tmps:Array Value}(he:EnvRel B ρ e tmps){fn:Func}{ex:Ex}{v:Value}(hk:resK P fn ex e h=some (v,h')) :
  (exitOf ex= .normal∨exitOf ex= .ret)∧h'=h∧∃v',(results fn tmps).run P w= .ok v' w∧VRel B ρ v v':=by
 have gen:(resC P h e fn.results.toList fun vs=>match vs with | [v]=>some (v,h) | vs=>some (.tuple vs.toArray,h))=some (v,h')→h'=h∧∃v',(results fn tmps).run P w= .ok v' w∧VRel B ρ v v':=by
  intro hr
  obtain ⟨vs,vs',h1,h2,h3⟩:=resC_sound (P:=P) s he (fun | .tmp t=>pure (tmps.getD t undef) | .cell a t=>do loadVar t (←asAddr (tmps.getD a undef))) (fun _=>rfl) (fun _ _=>rfl) _ hr
  have hrun:(results fn tmps).run P w= .ok (if h:vs'.toArray.size=1 then vs'.toArray[0] else .tuple vs'.toArray) w:=by
   unfold results
   rw [Array.mapM_eq_mapM_toList]
   simp only [Sem.run_bind,Sem.run_map]
   exact (congrArg (fun q=>Result.andThen (Result.andThen q (fun (a:List Value) w'=>Result.ok a.toArray w')) (fun (a:Array Value) w'=>Sem.run P (pure (if h:a.size=1 then a[0] else Value.tuple a)) w')) h3).trans rfl
  split at h1
  ·rename_i u
   cases h1
   cases h2 with
   | cons a b=>
    cases b
    exact ⟨rfl,_,hrun,a⟩
  ·rename_i us hne
   cases h1
   refine ⟨rfl,_,hrun, ?_⟩
   have hl:=h2.length
   have:¬vs'.toArray.size=1:=by
    intro h1
    have h1':vs'.length=1:=by simpa using h1
    rw [h1'] at hl
    obtain ⟨x,hx⟩:=List.length_eq_one_iff.1 hl
    exact hne x hx
   rw [dif_neg this]
   exact .tuple (by simpa using h2)
 cases ex with
 | exit i=>cases hk
 | normal=>exact ⟨.inl rfl,gen hk⟩
 | ret=>exact ⟨.inr rfl,gen hk⟩
theorem envFrom_get :∀(as:List Value) (k t:Nat),(envFrom as k).get t=if k≤t then (as[t - k]?).getD junk else junk
 | [],k,t=>by simp [envFrom,Env.get]
 | v::vs,k,t=>by
  simp only [envFrom,Env.get]
  rw [envFrom_get vs (k+1) t]
  by_cases h:k=t
  ·subst h; simp
  ·have h1:(k==t)=false:=by simpa using h
   rw [h1,cond_false]
   by_cases h2:k+1≤t
   ·rw [if_pos h2,if_pos (by omega)]
    have:t - k=(t - (k+1))+1:=by omega
    rw [this,List.getElem?_cons_succ]
   ·rw [if_neg h2]
    split
    ·omega
    ·rfl
def OvOK(P:Program)(H:Hint) :Prop:=
 ∀ call f args h v, H.isOv f = true → H.ov call f args h = some v → (∃ fn c, P.funcs[f]? = some fn ∧ fn.body = some c ∧ (fn.name == "runtime.NumGoroutine") = false) ∧
  ((∀B W,CallOK P B W call)→∀(B:Nat) (W:World) (ρ:Places) (w:World) (as':Array Value),Sim B W ρ h w→VRels B ρ args as'.toList→Calls P f as' w fun e w'=>Below w.heap.size w w'∧∃v',e= .returned v'∧VRel B ρ v v')
theorem Sim.grown{B:Nat}{W w w':World}{ρ:Places}{h:Hp}(s:Sim B W ρ h w)(hb:Below w.heap.size w w') :Sim B W ρ h w':=by
 have hB:B≤w.heap.size:=Nat.le_trans s.low s.below.size
 refine ⟨s.below.trans (hb.mono hB),s.low,s.base,s.first,fun a v h1=> ?_,fun r l h1=> ?_,fun r b h1=> ?_,fun r es h1=> ?_,s.apart,s.mapsApart,s.free⟩
 ·obtain ⟨h2,u,h3,h4⟩:=s.old a v h1
  exact ⟨h2,u,(hb.cell (by omega)).trans h3,h4⟩
 ·obtain ⟨h2,h3,h4,h5⟩:=s.dom r l h1
  exact ⟨h2,h3,h4,Nat.lt_of_lt_of_le h5 hb.size⟩
 ·obtain ⟨l,h2,c,t,h3,h4⟩:=s.new r b h1
  exact ⟨l,h2,c,t,(hb.block _ (s.dom r l h2).2.2.2).trans h3,h4⟩
 ·obtain ⟨l,h2,c,t,h3,h4⟩:=s.maps r es h1
  exact ⟨l,h2,c,t,(hb.block _ (s.dom r l h2).2.2.2).trans h3,h4⟩
theorem aN_sound(hq:EqOK P H.eqt)(hov:OvOK P H)(hm:P.follows .mixedOrders=true) :∀(k:Nat) (B:Nat) (W:World),CallOK P B W (aN P H k)
 | 0,_,_=>fun _ _ _ _ _ hk=>by cases hk
 | k+1,B,W=>fun g as h v h' hk=>by
  unfold aN at hk
  cases ho:H.isOv g <;>rw [ho] at hk <;>simp only [cond_true,cond_false] at hk
  rotate_left
  ·split at hk
   ·rename_i u hu
    cases hk
    obtain ⟨h1,h2⟩:=hov _ g as _ _ ho hu
    refine ⟨h1,fun ρ w as' s hr=>(h2 (aN_sound hq hov hm k) B W ρ w as' s hr).mono ?_⟩
    rintro e w' ⟨hb,v',rfl,hv⟩
    exact ⟨v',rfl,ρ,LeP.refl ρ,s.grown hb,hv⟩
   ·cases hk
  have hk':funC P H (aN P H k) g as h=some (v,h'):=hk
  unfold funC at hk'
  split at hk'
  ·rename_i fn hfn
   split at hk'
   ·rename_i c hc
    cases hn : fn.name == "runtime.NumGoroutine" <;> rw [hn] at hk' <;> simp only [cond_true, cond_false] at hk'
    ·refine ⟨⟨fn,c,hfn,hc,hn⟩,fun ρ w as' s hr=> ?_⟩
     refine calls_of_wp hfn hc ?_
     have hlen:=hr.length
     have hframe:FrameRel B ρ (max as.length fn.ntmps) (envFrom as 0) {tmps:=as'++Array.replicate (fn.ntmps - as'.size) undef,defers:=[]}:=by
      refine ⟨fun t=> ?_, ?_,rfl⟩
      ·rw [envFrom_get]
       simp only [Nat.zero_le,if_true,Nat.sub_zero]
       cases ht:as[t]? with
       | none=>exact .junk _
       | some u=>
        obtain ⟨u',h1,h2⟩:=hr.get ht
        have h1':as'[t]? =some u':=by simpa using h1
        have hlt:t<as'.size:=(Array.getElem?_eq_some_iff.1 h1').1
        simp only [Option.getD_some,Array.getD_eq_getD_getElem?]
        rw [Array.getElem?_append_left hlt,h1']
        exact h2
      ·have:as.length=as'.size:=by simpa using hlen
       simp
       omega
     refine codeC_sound hq (aN_sound hq hov hm k B W) (aN_step P H k) hm g c hk' s hframe ?_
     intro ex e' h2 ρ' a' w' hl hs hf hk2
     obtain ⟨h1,h3,v',h4,h5⟩:=resK_sound (P:=P) hs hf.env hk2
     subst h3
     have post:a'.defers=[]∧∃v,(results fn a'.tmps).run P w'= .ok v w'∧(∃v'_1,Ending.returned v=Ending.returned v'_1∧Post B W ρ _ _ v'_1 w'):=⟨hf.defers,v',h4,v',rfl,ρ',hl,hs,h5⟩
     rcases h1 with h1 | h1 <;>rw [h1] <;>exact post
    ·cases hk'
   ·cases hk'
  ·cases hk'
theorem arun_sound(hq:EqOK P H.eqt)(hov:OvOK P H)(hm:P.follows .mixedOrders=true) :CallOK P B W (arun P H):=fun g as h v h' hk=>by
 obtain ⟨k,hk'⟩:=arun_some P H hk
 exact aN_sound hq hov hm k _ _ g as h v h' hk'
/-! ### The beginning. -/
def flat1(B:Nat) :Value→Bool
 | .bool _ | .int .. | .string _ | .pointer none | .nilFunc | .nilIface=>true
 | .pointer (some a)=>decide (a.block<B)
 | .slice none n c=>n==0 &&c==0
 | .slice (some a) _ _=>decide (a.block<B)
 | _=>false
def flatB(B:Nat) :Value→Bool
 | .agg cs=>cs.toList.all (flat1 B)
 | v=>flat1 B v
theorem rel_flat1{ρ:Places}{v:Value}(h:flat1 B v=true) :VRel B ρ v v:=by
 cases v with
 | bool b=>exact .bool b
 | int k n=>exact .int k n
 | string s=>exact .string s
 | pointer a=>cases a with
  | none=>exact .ptrNil
  | some a=>exact .ptrOld (of_decide_eq_true h)
 | slice a n c=>cases a with
  | none=>
   simp [flat1] at h
   obtain ⟨rfl,rfl⟩:=h
   exact .slNil
  | some a=>exact .slOld (of_decide_eq_true h)
 | nilFunc=>exact .nilFunc
 | nilIface=>exact .nilIface
 | _=>cases h
theorem rel_flat{ρ:Places}{v:Value}(h:flatB B v=true) :VRel B ρ v v:=by
 cases v with
 | agg cs=>
  refine .agg ?_
  have h:cs.toList.all (flat1 B)=true:=h
  generalize cs.toList=l at h
  induction l with
  | nil=>exact .nil
  | cons x l ih=>
   simp only [List.all_cons,Bool.and_eq_true] at h
   exact .cons (rel_flat1 h.1) (ih h.2)
 | _=>exact rel_flat1 h
def oldV(B:Nat)(v:Value) :Option Value:=
 bif flatB B v then some v else match v with
  | .slice (some _) n c=>bif n==0 &&c==0 then some (.slice (some ⟨0,0,none⟩) 0 0) else none
  | _=>none
theorem oldV_rel{ρ:Places}{v u:Value}(hB:0<B)(h:oldV B u=some v) :VRel B ρ v u:=by
 unfold oldV at h
 cases h2:flatB B u <;>rw [h2] at h
 ·simp only [cond_false] at h
  split at h
  ·rename_i a n c
   cases h3:n==0 &&c==0 <;>rw [h3] at h
   ·cases h
   ·simp at h3
    obtain ⟨rfl,rfl⟩:=h3
    cases h
    exact .slDang hB
  ·cases h
 ·cases h
  exact rel_flat h2
def start(w:World) :Hp where
 base:=w.heap.size
 old:=fun a=>bif decide (a.block<w.heap.size) then (match w.cell? a with | some v=>oldV w.heap.size v | none=>none) else none
 new:=fun _=>none
 maps:=fun _=>none
 next:=w.heap.size
 low:=w.heap.size
theorem start_sim(w:World) :Sim w.heap.size w (fun _=>none) (start w) w where
 below:=Below.refl _ _
 low:=Nat.le_refl _
 base:=rfl
 first:=Nat.le_refl _
 old:=fun a v hv=>by
  simp only [start] at hv
  cases h1:decide (a.block<w.heap.size) <;>rw [h1] at hv
  ·cases hv
  ·simp only [cond_true] at hv
   split at hv
   ·rename_i u hu
    have hlt:=of_decide_eq_true h1
    exact ⟨hlt,u,hu,oldV_rel (by omega) hv⟩
   ·cases hv
 dom:=fun _ _ h=>by cases h
 new:=fun _ _ h=>by cases h
 maps:=fun _ _ h=>by cases h
 apart:=fun _ _ _ _ _ _ h=>by cases h
 mapsApart:=fun _ _ _ _ _ _ h=>by cases h
 free:=fun _ h=>by cases h
theorem start_cellV{w:World}{a:Addr}{u v:Value}(hc:w.cell? a=some u)(hf:oldV w.heap.size u=some v) :(start w).cell a=some v:=by
 have hlt:a.block<w.heap.size:=by
  unfold World.cell? at hc
  rcases Nat.lt_or_ge a.block w.heap.size with h | h
  ·exact h
  ·rw [Array.getElem?_eq_none h] at hc; cases hc
 unfold Hp.cell
 simp only [start,decide_eq_true hlt,cond_true,hc,hf]
theorem oldV_flat{B:Nat}{v:Value}(hf:flatB B v=true) :oldV B v=some v:=by unfold oldV; rw [hf]; rfl
theorem start_cell{w:World}{a:Addr}{v:Value}(hc:w.cell? a=some v)(hf:flatB w.heap.size v=true) :(start w).cell a=some v:=start_cellV hc (oldV_flat hf)
theorem run_law(hq:EqOK P H.eqt)(hov:OvOK P H)(hm:P.follows .mixedOrders=true){f:FuncId}{args:Array Value}{w:World}(ha:∀v∈args.toList,flatB w.heap.size v=true){b:Bool}{h':Hp}(hr:arun P H f args.toList (start w)=some (.bool b,h')) :
  Calls P f args w fun e w'=>e= .returned (.bool b)∧Below w.heap.size w w':=by
 obtain ⟨_,hc⟩:=arun_sound (B:=w.heap.size) (W:=w) hq hov hm f args.toList (start w) (.bool b) h' hr
 have hargs:VRels w.heap.size (fun _=>none) args.toList args.toList:=by
  generalize args.toList=l at ha
  induction l with
  | nil=>exact .nil
  | cons x l ih=>exact .cons (rel_flat (ha x (by simp))) (ih fun v hv=>ha v (by simp [hv]))
 refine (hc _ w args (start_sim w) hargs).mono ?_
 rintro e w' ⟨v',rfl,ρ',_,hs,hv⟩
 cases hv
 exact ⟨rfl,hs.below⟩
end
end Go.Proofs.Ytpfploolkmcalaa.AM
end
