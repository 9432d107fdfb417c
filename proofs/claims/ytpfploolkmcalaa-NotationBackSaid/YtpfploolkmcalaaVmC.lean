/- Merged: Vm15 Vm16 Vm17 Vm18 Vm19 Vm20 Vm30 Vm31 Vm32 Vm33 Vm34 Vm35 Vm21 Vm22. Conditions: none. -/
import Derived.Test.YtpfploolkmcalaaVmB
import Derived.Test.YtpfploolkmcalaaAmC
set_option linter.all false
section
namespace Go.Proofs.Ytpfploolkmcalaa.VM
open Go AM
set_option linter.unusedSectionVars false
set_option linter.unusedSimpArgs false
set_option linter.unusedVariables false
section
variable {F F' N:NS} {G G' G2:GM} {st st':St} {h h':Hp} {R:Type} {z:Fz} (P:Program)
/-! ### other names -/
def Named(σ:Nat→Option Nat)(G G2:GM) :Prop:=∀id j g,σ id=some j→G id=some g→G2 j=some g
theorem ren1_buf(σ:Nat→Option Nat)(bs:Bs)(id:Nat) :ren1 σ bs (.buf id)=(match bs.get id with
  | some b=>match b with
   | .arr own sz nn l=>bif own then (match σ id with | some j=> .buf j | none=> .junk) else .t (.list sz nn l)
   | .rows .. =>(match σ id with | some j=> .buf j | none=> .junk)
   | _=> .junk
  | none=> .junk):=rfl
theorem ren1_ok(s:Sm F N G st h){σ:Nat→Option Nat}(hn:Named σ G G2)(hz:Fz.le z (fz F h)){v:V}{u:Value}(hv:VR z G v u) :VR (fz F h) G2 (ren1 σ st.blks v) u:=by
 cases hv with
 | t h=>exact .t (h.mono hz)
 | tagg h=>exact .tagg (h.imp fun _ _ h=>h.mono hz)
 | con h=>exact .con h
 | pt f h=>exact .pt f fun j y hj=>let ⟨a,b⟩:=h j y hj; ⟨hz.cell _ _ a,b.mono hz⟩
 | @bufNil id r sz n hG=>
  rw [ren1_buf]
  split
  ·rename_i b hb
   split
   ·rename_i own sz' nn l
    cases own
    ·exact .t (s.frozen hb (.bufNil (z:=z) hG))
    ·simp only [cond_true]
     split
     ·rename_i j hj; exact .bufNil (hn _ _ _ hj hG)
     ·exact .junk _
   ·split
    ·rename_i j hj; exact .bufNil (hn _ _ _ hj hG)
    ·exact .junk _
   ·exact .junk _
  ·exact .junk _
 | @buf id r sz n hG=>
  rw [ren1_buf]
  split
  ·rename_i b hb
   split
   ·rename_i own sz' nn l
    cases own
    ·exact .t (s.frozen hb (.buf (z:=z) hG))
    ·simp only [cond_true]
     split
     ·rename_i j hj; exact .buf (hn _ _ _ hj hG)
     ·exact .junk _
   ·split
    ·rename_i j hj; exact .buf (hn _ _ _ hj hG)
    ·exact .junk _
   ·exact .junk _
  ·exact .junk _
 | @ptrA id i off r sz n hG=>
  show VR _ _ (match σ id with | some j=> .ptr j i off | none=> .junk) _
  split
  ·rename_i j hj; exact .ptrA (hn _ _ _ hj hG)
  ·exact .junk _
 | @ptrV id i off r n hG=>
  show VR _ _ (match σ id with | some j=> .ptr j i off | none=> .junk) _
  split
  ·rename_i j hj; exact .ptrV (hn _ _ _ hj hG)
  ·exact .junk _
 | @ptrW id i off r n hG=>
  show VR _ _ (match σ id with | some j=> .ptr j i off | none=> .junk) _
  split
  ·rename_i j hj; exact .ptrW (hn _ _ _ hj hG)
  ·exact .junk _
 | @map id r hG=>
  show VR _ _ (match σ id with | some j=> .map j | none=> .junk) _
  split
  ·rename_i j hj; exact .map (hn _ _ _ hj hG)
  ·exact .junk _
 | fn g a b=>exact .junk _
 | agg h=>exact .junk _
 | tup h=>exact .junk _
 | junk v=>exact .junk _
theorem ren1s_ok(s:Sm F N G st h){σ:Nat→Option Nat}(hn:Named σ G G2)(hz:Fz.le z (fz F h)) :∀{vs:List V} {us:List Value},VRs z G vs us→VRs (fz F h) G2 (vs.map (ren1 σ st.blks)) us
 | _,_, .nil=> .nil
 | _,_, .cons a b=> .cons (ren1_ok s hn hz a) (ren1s_ok s hn hz b)
theorem ren2_ok(s:Sm F N G st h){σ:Nat→Option Nat}(hn:Named σ G G2)(hz:Fz.le z (fz F h)){v:V}{u:Value}(hv:VR z G v u) :VR (fz F h) G2 (ren2 σ st.blks v) u:=by
 unfold ren2
 split
 ·cases hv with
  | agg h=>exact aggV_ok (ren1s_ok s hn hz h)
 ·cases hv with
  | fn _ a b=>exact .fn _ (ren1s_ok s hn hz a) (ren1s_ok s hn hz b)
 ·exact ren1_ok s hn hz hv
theorem ren2s_ok(s:Sm F N G st h){σ:Nat→Option Nat}(hn:Named σ G G2)(hz:Fz.le z (fz F h)) :∀{vs:List V} {us:List Value},VRs z G vs us→VRs (fz F h) G2 (vs.map (ren2 σ st.blks)) us
 | _,_, .nil=> .nil
 | _,_, .cons a b=> .cons (ren2_ok s hn hz a) (ren2s_ok s hn hz b)
theorem ren3_ok(s:Sm F N G st h){σ:Nat→Option Nat}(hn:Named σ G G2)(hz:Fz.le z (fz F h)){v:V}{u:Value}(hv:VR z G v u) :VR (fz F h) G2 (ren3 σ st.blks v) u:=by
 unfold ren3
 split
 ·cases hv with
  | tup h=>exact .tup (ren2s_ok s hn hz h)
 ·exact ren2_ok s hn hz hv
theorem pack_get(σ:Nat→Option Nat)(bs:Bs) :∀{ids:List Nat} {j:Nat} {b':Blk},(packB σ bs ids).get j=some b'→∃id b,id∈ids∧bs.get id=some b∧σ id=some j∧b'=renB σ bs b
 | [],_,_,h=>by cases h
 | id::ids,j,b',h=>by
  unfold packB at h
  split at h
  ·rename_i b k hb hk
   rw [get_cons] at h
   split at h
   ·rename_i e
    subst e
    cases h
    exact ⟨id,b,List.mem_cons_self ..,hb,hk,rfl⟩
   ·obtain ⟨id',b1,h1,h2⟩:=pack_get σ bs h
    exact ⟨id',b1,List.mem_cons_of_mem _ h1,h2⟩
  ·obtain ⟨id',b1,h1,h2⟩:=pack_get σ bs h
   exact ⟨id',b1,List.mem_cons_of_mem _ h1,h2⟩
theorem renB_kind(σ:Nat→Option Nat)(bs:Bs)(b:Blk) :kindOf (renB σ bs b)=kindOf b∧real (renB σ bs b)=real b∧wr (renB σ bs b)=wr b:=by
 cases b <;>simp [renB,kindOf,real,wr]
theorem renB_ok(s:Sm F N G st h){σ:Nat→Option Nat}(hn:Named σ G G2){F2 N2:NS}(hs:Sub F F2){r:Nat}{b:Blk}(hb:BR F N G h r b) :BR F2 N2 G2 h r (renB σ st.blks b):=by
 have hz:Fz.le (fz F h) (fz F2 h):=(Ext.refl F N h).fz hs
 cases b with
 | arr own sz nn l=>
  rcases hb with hb | ⟨h1,c,h2,h3,h4,h5,h6⟩
  ·exact .inl hb
  ·exact .inr ⟨h1,c,h2,h3,h4.mono hz,h5,fun ho=>hs _ (h6 ho)⟩
 | var cs=>
  obtain ⟨c,h2,h3,h4,h5⟩:=hb
  refine ⟨c,h2,h3,h4, ?_⟩
  have:=ren2s_ok s hn (Fz.le_refl _) (VRs.of h5)
  exact (this.mono hz (LeG.refl _)).all
 | av l=>
  obtain ⟨c,h2,h3,h4,h5⟩:=hb
  exact ⟨c,h2,h3,h4,h5.imp fun _ _ h=>h.mono hz⟩
 | map es=>
  obtain ⟨es',h2,h3⟩:=hb
  exact ⟨es',h2,h3.imp fun _ _ hv=>⟨hv.1,hv.2.mono hz⟩⟩
 | rows sz l=>exact hb
theorem Sm.sub(s:Sm F N G st h){σ:Nat→Option Nat}{st2:St}{F2 N2:NS}(hn:Named σ G G2)(hb:∀j b',st2.blks.get j=some b'→∃id b,st.blks.get id=some b∧σ id=some j∧b'=renB σ st.blks b)
  (hu:∀j g,G2 j=some g→j<500∨j∈st2.used) (hs:Sub F F2) (hlt:∀r,F2 r∨N2 r→r<h.next)
  (hap:∀id b r k j,st.blks.get id=some b→σ id=some j→wr b=true→G id=some ⟨r,k⟩→¬F2 r∧¬N2 r∧∀c,h.new r=some c→∀q∈c.par,¬F2 q∧¬N2 q):Sm F2 N2 G2 st2 h:=by
 refine ⟨s.ok,hlt, ?_, ?_, ?_,hu⟩
 ·intro j b' hj
  obtain ⟨id,b,h1,h2,rfl⟩:=hb j b' hj
  obtain ⟨r,h3,h4⟩:=s.blk id b h1
  exact ⟨r,by rw [(renB_kind σ st.blks b).1]; exact hn _ _ _ h2 h3,renB_ok s hn hs h4⟩
 ·intro j1 b1 j2 b2 r k1 k2 g1 g2 r1 r2 e1 e2
  obtain ⟨id1,c1,a1,a2,rfl⟩:=hb _ _ g1
  obtain ⟨id2,c2,d1,d2,rfl⟩:=hb _ _ g2
  rw [(renB_kind _ _ _).2.1] at r1 r2
  obtain ⟨q1,f1,_⟩:=s.blk id1 c1 a1
  obtain ⟨q2,f2,_⟩:=s.blk id2 c2 d1
  have i1:=hn _ _ _ a2 f1
  have i2:=hn _ _ _ d2 f2
  rw [e1] at i1
  rw [e2] at i2
  cases i1
  cases i2
  have:=s.inj _ _ _ _ _ _ _ a1 d1 r1 r2 f1 f2
  subst this
  rw [a2] at d2
  exact Option.some.inj d2
 ·intro j b' r k hj hw hG
  obtain ⟨id,b,h1,h2,rfl⟩:=hb _ _ hj
  rw [(renB_kind _ _ _).2.2] at hw
  obtain ⟨r',h3,_⟩:=s.blk id b h1
  have:=hn _ _ _ h2 h3
  rw [hG] at this
  cases this
  obtain ⟨p1,p2,p3⟩:=hap id b r _ j h1 h2 hw h3
  obtain ⟨_,_,p4⟩:=s.apart id b r _ h1 hw h3
  refine ⟨p1,p2,fun c hc q hq=> ?_⟩
  obtain ⟨i1,i2⟩:=p3 c hc q hq
  obtain ⟨i0,_,_,i3⟩:=p4 c hc q hq
  refine ⟨i0,i1,i2,fun j2 b2 k2 g2 r2 e2=> ?_⟩
  obtain ⟨id2,c2,d1,d2,rfl⟩:=hb _ _ g2
  rw [(renB_kind _ _ _).2.1] at r2
  obtain ⟨q2,f2,_⟩:=s.blk id2 c2 d1
  have:=hn _ _ _ d2 f2
  rw [e2] at this
  cases this
  exact i3 id2 c2 _ d1 r2 f2
theorem pos_some :∀{l:List Nat} {k id j:Nat},pos l k id=some j→k≤j∧l[j - k]? =some id
 | [],_,_,_,h=>by cases h
 | x::l,k,id,j,h=>by
  unfold pos at h
  cases hx:x==id <;>rw [hx] at h <;>simp only [cond_true,cond_false] at h
  ·obtain ⟨h1,h2⟩:=pos_some h
   refine ⟨by omega, ?_⟩
   rw [show j - k=(j - (k+1))+1 by omega,List.getElem?_cons_succ]
   exact h2
  ·cases h
   have:x=id:=by simpa using hx
   subst this
   exact ⟨Nat.le_refl _,by simp⟩
end
end Go.Proofs.Ytpfploolkmcalaa.VM
end
section
namespace Go.Proofs.Ytpfploolkmcalaa.VM
open Go AM
set_option linter.unusedSectionVars false
set_option linter.unusedSimpArgs false
set_option linter.unusedVariables false
def CallOKV(call:CallF)(callA:FuncId→List Value→Hp→Option (Value×Hp)) :Prop:=
 ∀g w as st v st',call g w as st=some (v,st')→∀(F N:NS) (G:GM) (h:Hp) (us:List Value),Sm F N G st h→(∀id g,G id=some g→id<8)→VRs (fz F h) G as us→
  ∃F' G' u h',callA g us h=some (u,h')∧Evo F N G st h F' G' st' h'∧VR (fz F' h') G' v u
section
variable {F F' N:NS} {G G' G2:GM} {st st':St} {h h':Hp} {R:Type} {z:Fz} (P:Program)
def isC(p:CP)(v:V) :Prop:=
 match p with
 | .t tp=>∃x,v= .t x∧fits1 tp x=true
 | .buf id=>v= .buf id
 | .ptr id i o=>v= .ptr id i o
 | .map id=>v= .map id
 | .nilp=>v= .con (.pointer none)
theorem fitC_is{p:CP}{v:V}{K:V→Option R}{r:R}(hk:fitC p v K=some r) :K v=some r∧isC p v:=by
 unfold fitC at hk
 cases p with
 | t p=>
  cases v <;>simp only at hk <;>first | (cases hk; done) | skip
  obtain ⟨h1,h2⟩:=fitT1_some hk
  exact ⟨h1,_,rfl,h2⟩
 | buf id=>
  cases v <;>simp only at hk <;>first | (cases hk; done) | skip
  rename_i id'
  cases hd:id'==id <;>rw [hd] at hk
  ·cases hk
  ·have:id'=id:=by simpa using hd
   subst this
   exact ⟨hk,rfl⟩
 | ptr id i o=>
  cases v <;>simp only at hk <;>first | (cases hk; done) | skip
  rename_i id' i' o'
  cases hd:(id'==id &&i'==i &&o'==o) <;>rw [hd] at hk
  ·cases hk
  ·simp only [Bool.and_eq_true,beq_iff_eq] at hd
   obtain ⟨⟨rfl,rfl⟩,rfl⟩:=hd
   exact ⟨hk,rfl⟩
 | map id=>
  cases v <;>simp only at hk <;>first | (cases hk; done) | skip
  rename_i id'
  cases hd:id'==id <;>rw [hd] at hk
  ·cases hk
  ·have:id'=id:=by simpa using hd
   subst this
   exact ⟨hk,rfl⟩
 | nilp=>
  cases v <;>simp only at hk <;>first | (cases hk; done) | skip
  rename_i u
  cases u <;>simp only at hk <;>first | (cases hk; done) | skip
  rename_i a
  cases a with
  | none=>exact ⟨hk,rfl⟩
  | some a=>cases hk
theorem fitCs_is{r:R} :∀{ps:List CP} {vs:List V} {K:List V→Option R},fitCs ps vs K=some r→K vs=some r∧All2 isC ps vs
 | [],[],K,hk=>⟨hk, .nil⟩
 | [],_::_,K,hk=>by cases hk
 | _::_,[],K,hk=>by cases hk
 | p::ps,v::vs,K,hk=>by
  rw [fitCs] at hk
  obtain ⟨h1,h2⟩:=fitC_is hk
  obtain ⟨h3,h4⟩:=fitCs_is h1
  exact ⟨h3, .cons h2 h4⟩
def isP0(p:VP0)(v:V) :Prop:=
 match p with
 | .t tp=>∃x,v= .t x∧isT tp x
 | .buf id=>v= .buf id
 | .ptr id i o=>v= .ptr id i o
 | .map id=>v= .map id
 | .nilp=>v= .con (.pointer none)
 | .agg ps=>∃vs,v= .agg vs∧All2 isC ps vs
theorem fitP0_is{p:VP0}{v:V}{K:V→Option R}{r:R}(hk:fitP0 p v K=some r) :K v=some r∧isP0 p v:=by
 unfold fitP0 at hk
 cases p with
 | t tp=>
  cases v <;>simp only at hk <;>first | (cases hk; done) | skip
  obtain ⟨h1,h2⟩:=fitT_some hk
  exact ⟨h1,_,rfl,h2⟩
 | buf id=>exact fitC_is (p:= .buf id) hk
 | ptr id i o=>exact fitC_is (p:= .ptr id i o) hk
 | map id=>exact fitC_is (p:= .map id) hk
 | nilp=>exact fitC_is (p:= .nilp) hk
 | agg ps=>
  cases v <;>simp only at hk <;>first | (cases hk; done) | skip
  obtain ⟨h1,h2⟩:=fitCs_is hk
  exact ⟨h1,_,rfl,h2⟩
theorem fitP0s_is{r:R} :∀{ps:List VP0} {vs:List V} {K:List V→Option R},fitP0s ps vs K=some r→K vs=some r∧All2 isP0 ps vs
 | [],[],K,hk=>⟨hk, .nil⟩
 | [],_::_,K,hk=>by cases hk
 | _::_,[],K,hk=>by cases hk
 | p::ps,v::vs,K,hk=>by
  rw [fitP0s] at hk
  obtain ⟨h1,h2⟩:=fitP0_is hk
  obtain ⟨h3,h4⟩:=fitP0s_is h1
  exact ⟨h3, .cons h2 h4⟩
def isP(p:VP)(v:V) :Prop:=
 match p with
 | .one p=>isP0 p v
 | .tup ps=>∃vs,v= .tup vs∧All2 isP0 ps vs
theorem fitP_is{p:VP}{v:V}{K:V→Option R}{r:R}(hk:fitP p v K=some r) :K v=some r∧isP p v:=by
 unfold fitP at hk
 split at hk
 ·exact fitP0_is hk
 ·split at hk
  ·obtain ⟨h1,h2⟩:=fitP0s_is hk
   exact ⟨h1,_,rfl,h2⟩
  ·cases hk
theorem fitB_is{p:BP}{b:Blk}{K:Blk→Option R}{r:R}(hk:fitB p b K=some r) :K b=some r∧(real b=true→wr b=true):=by
 unfold fitB at hk
 cases p <;>cases b <;>simp only at hk <;>first | (cases hk; done) | skip
 ·rename_i s own sz nn l
  cases hd:(own &&sz==s) <;>rw [hd] at hk
  ·cases hk
  ·simp only [Bool.and_eq_true,beq_iff_eq] at hd
   obtain ⟨rfl,rfl⟩:=hd
   exact ⟨hk,fun h=>by simpa [wr,real] using h⟩
 ·exact ⟨(fitCs_is hk).1,fun _=>rfl⟩
 ·exact ⟨hk,fun _=>rfl⟩
 ·exact ⟨hk,fun _=>rfl⟩
theorem fitBs_is{r:R} :∀{ps:List (Nat×BP)} {bs:Bs} {K:Bs→Option R},fitBs ps bs K=some r→K bs=some r∧bs.map (·.1)=ps.map (·.1)∧∀j b,bs.get j=some b→real b=true→wr b=true
 | [],[],K,hk=>⟨hk,rfl,fun _ _ h=>nomatch h⟩
 | [],_::_,K,hk=>by cases hk
 | _::_,[],K,hk=>by cases hk
 | (i,p)::ps,(j,b)::bs,K,hk=>by
  rw [fitBs] at hk
  cases hd:j==i <;>rw [hd] at hk
  ·cases hk
  ·have:j=i:=by simpa using hd
   subst this
   simp only [cond_true] at hk
   obtain ⟨h1,h2⟩:=fitB_is hk
   obtain ⟨h3,h4,h5⟩:=fitBs_is h1
   refine ⟨h3,by simp [h4],fun q c hq=> ?_⟩
   rw [get_cons] at hq
   split at hq
   ·cases hq; exact h2
   ·exact h5 q c hq
theorem like3_ok{p:VP}{v:V}{u:Value}{zo:Option Value}(hp:vpz p zo=true)(hi:isP p v)(hv:VR z G v u)(h':Hp)(KA:Value→Hp→Option R) :
  (match (generalizing:=false) zo with | some zv=>like3C zv u fun v=>KA v h' | none=>KA u h')=KA u h':=by
 have one:∀{p:VP0} {v:V} {u zv:Value},vpz0 p zv=true→isP0 p v→VR z G v u→∀(S:Type) (K:Value→Option S),like2C zv u K=K u:=by
  intro p v u zv hp hi hv S K
  have l1:∀{q:TP1},tpz1 q zv=true→isV1 q v→like2C zv u K=K u:=by
   intro q h1 h2
   have:like2C zv u K=like1C zv u K:=by
    cases zv <;>first | rfl | (cases q <;>cases h1)
   rw [this]
   exact like1_V h1 h2 hv K
  have c1:∀{q:CP} {v:V} {u zv:Value} (K:Value→Option S),cpz q zv=true→isC q v→VR z G v u→like1C zv u K=K u:=by
   intro q v u zv K hp hi hv
   cases q with
   | t tp=>
    obtain ⟨x,rfl,hx⟩:=hi
    have h2:isV1 tp (.t x):=hx
    exact like1_V hp h2 hv K
   | buf id=>
    cases hi
    cases zv <;>simp only [cpz] at hp <;>first | (cases hp; done) | skip
    rename_i a n c
    cases a with
    | none=>
     have h1:tpz1 (.list 0) (.slice none n c)=true:=hp
     have h2:isV1 (.list 0) (.buf id):=⟨_,rfl⟩
     exact like1_V h1 h2 hv K
    | some a=>cases hp
   | ptr id i o=>
    cases hi
    cases zv <;>simp only [cpz] at hp <;>first | (cases hp; done) | skip
    rename_i a
    cases a with
    | none=>
     have h1:tpz1 .ptr (.pointer none)=true:=rfl
     have h2:isV1 .ptr (.ptr id i o):=rfl
     exact like1_V h1 h2 hv K
    | some a=>cases hp
   | nilp=>
    cases hi
    cases zv <;>simp only [cpz] at hp <;>first | (cases hp; done) | skip
    rename_i a
    cases a with
    | none=>
     have h1:tpz1 .ptr (.pointer none)=true:=rfl
     have h2:isV1 .ptr (.con (.pointer none)):= .inl ⟨rfl,rfl⟩
     exact like1_V h1 h2 hv K
    | some a=>cases hp
   | map id=>
    cases hi
    cases zv <;>simp only [cpz] at hp <;>first | (cases hp; done) | skip
    rename_i a
    cases a with
    | none=>
     have h1:tpz1 .map (.map none)=true:=rfl
     have h2:isV1 .map (.map id):=rfl
     exact like1_V h1 h2 hv K
    | some a=>cases hp
  cases p with
  | agg ps=>
   obtain ⟨vs,rfl,hi⟩:=hi
   cases zv <;>simp only [vpz0] at hp <;>first | (cases hp; done) | skip
   rename_i zs
   cases hv with
   | @agg _ a hcs=>
    show asAggC (.agg a) (fun vs=>likeCellsC zs.toList vs fun us=>K (.agg us.toArray))=_
    unfold asAggC
    have:∀{ps:List CP} {cs:List V} {zs us:List Value} (K:List Value→Option S),cpzs ps zs=true→All2 isC ps cs→VRs z G cs us→likeCellsC zs us K=K us:=by
     intro ps
     induction ps with
     | nil=>
      intro cs zs us K h1 h2 h3
      cases h2
      cases h3
      cases zs with
      | nil=>rfl
      | cons _ _=>cases h1
     | cons p ps ih=>
      intro cs zs us K h1 h2 h3
      cases h2 with
      | cons a1 a2=>
       cases h3 with
       | cons b1 b2=>
        cases zs with
        | nil=>cases h1
        | cons zv zs=>
         simp only [cpzs,Bool.and_eq_true] at h1
         unfold likeCellsC consC
         simp only
         rw [c1 _ h1.1 a1 b1]
         exact ih _ h1.2 a2 b2
    simp only
    rw [this _ hp hi hcs]
  | t tp=>
   obtain ⟨x,rfl,hx⟩:=hi
   cases tp with
   | one q=>
    have hq:tpz1 q zv=true:=by cases zv <;>exact hp
    exact l1 hq hx
   | agg ps=>
    obtain ⟨cs,rfl,hf⟩:=hx
    cases zv <;>simp only [vpz0,tpz] at hp <;>first | (cases hp; done) | skip
    rename_i zs
    cases vr_t hv with
    | one hr=>cases hr
    | @agg _ a hcs=>
     show asAggC (.agg a) (fun vs=>likeCellsC zs.toList vs fun us=>K (.agg us.toArray))=_
     unfold asAggC
     have:∀{ps:List TP1} {cs:List T} {zs us:List Value} (K:List Value→Option S),tpzs ps zs=true→All2 (fun p x=>fits1 p x=true) ps cs→SRs z cs us→likeCellsC zs us K=K us:=by
      intro ps
      induction ps with
      | nil=>
       intro cs zs us K h1 h2 h3
       cases h2
       cases h3
       cases zs with
       | nil=>rfl
       | cons _ _=>cases h1
      | cons p ps ih=>
       intro cs zs us K h1 h2 h3
       cases h2 with
       | cons a1 a2=>
        cases h3 with
        | cons b1 b2=>
         cases zs with
         | nil=>cases h1
         | cons zv zs=>
          simp only [tpzs,Bool.and_eq_true] at h1
          unfold likeCellsC consC
          simp only
          rw [like1_T h1.1 a1 b1]
          exact ih _ h1.2 a2 b2
     simp only
     rw [this _ hp hf hcs]
  | buf id=>
   cases hi
   cases zv <;>simp only [vpz0] at hp <;>first | (cases hp; done) | skip
   rename_i a n c
   cases a with
   | none=>exact l1 (q:= .list 0) hp ⟨_,rfl⟩
   | some a=>cases hp
  | ptr id i o=>
   cases hi
   cases zv <;>simp only [vpz0] at hp <;>first | (cases hp; done) | skip
   rename_i a
   cases a with
   | none=>exact l1 (q:= .ptr) rfl rfl
   | some a=>cases hp
  | nilp=>
   cases hi
   cases zv <;>simp only [vpz0] at hp <;>first | (cases hp; done) | skip
   rename_i a
   cases a with
   | none=>exact l1 (q:= .ptr) rfl (.inl ⟨rfl,rfl⟩)
   | some a=>cases hp
  | map id=>
   cases hi
   cases zv <;>simp only [vpz0] at hp <;>first | (cases hp; done) | skip
   rename_i a
   cases a with
   | none=>exact l1 (q:= .map) rfl rfl
   | some a=>cases hp
 cases zo with
 | none=>rfl
 | some zv=>
  show like3C zv u (fun v=>KA v h')=_
  cases p with
  | one p=>
   have hp:vpz0 p zv=true:=hp
   have:like3C zv u (fun v=>KA v h')=like2C zv u (fun v=>KA v h'):=by
    cases zv <;>first | rfl | skip
    cases p with
    | t tp=>cases tp <;>simp only [vpz0,tpz] at hp <;>first | (cases hp; done) | (rename_i q _; cases q <;>cases hp)
    | _=>cases hp
   rw [this]
   exact one hp hi hv _ _
  | tup ps=>
   obtain ⟨vs,rfl,hi⟩:=hi
   cases zv <;>simp only [vpz] at hp <;>first | (cases hp; done) | skip
   rename_i zs
   cases hv with
   | @tup _ a hvs=>
    show likePartsC zs.toList a.toList (fun us=>KA (.tuple us.toArray) h')=_
    have:∀{ps:List VP0} {vs:List V} {zs us:List Value} (K:List Value→Option R),vpzs ps zs=true→All2 isP0 ps vs→VRs z G vs us→likePartsC zs us K=K us:=by
     intro ps
     induction ps with
     | nil=>
      intro vs zs us K h1 h2 h3
      cases h2
      cases h3
      cases zs with
      | nil=>rfl
      | cons _ _=>cases h1
     | cons p ps ih=>
      intro vs zs us K h1 h2 h3
      cases h2 with
      | cons a1 a2=>
       cases h3 with
       | cons b1 b2=>
        cases zs with
        | nil=>cases h1
        | cons zv zs=>
         simp only [vpzs,Bool.and_eq_true] at h1
         unfold likePartsC consC
         simp only
         rw [one h1.1 a1 b1]
         exact ih _ h1.2 a2 b2
    rw [this _ hp hi hvs]
end
end Go.Proofs.Ytpfploolkmcalaa.VM
end
section
namespace Go.Proofs.Ytpfploolkmcalaa.VM
open Go AM
set_option linter.unusedSectionVars false
set_option linter.unusedSimpArgs false
set_option linter.unusedVariables false
section
variable {F F' N:NS} {G G' G2:GM} {st st':St} {h h':Hp} {R:Type} {z:Fz} (P:Program)
theorem toBuf_ok(s:Sm F N G st h)(hz:Fz.le z (fz F h)){mid n:Nat}{v:V}{u:Value}(hv:VR z G v u){K:V→St→Option R}{q:R}(hk:toBuf st mid n v K=some q) :
  ∃v' st' G',K v' st'=some q∧Step F N G st h F G' st' h∧VR (fz F h) G' v' u∧∀id b,st.blks.get id=some b→st'.blks.get id=some b:=by
 unfold toBuf at hk
 split at hk
 ·exact ⟨_,st,G,hk,Step.refl s,hv.mono hz (LeG.refl _),fun _ _ h=>h⟩
 ·split at hk
  ·rename_i sz nn l
   obtain ⟨h1,hk2⟩:=needC_some hk
   simp only [Bool.and_eq_true,Bool.not_eq_true',List.isEmpty_iff] at h1
   obtain ⟨rfl,rfl⟩:=h1
   obtain ⟨i1,i2,hk3⟩:=mint_some hk2
   cases vr_t hv with
   | one hr=>
    cases hr
    refine ⟨_,_,_,hk3,step_nil s n i1 i2, .bufNil (setG_self _ _ _),fun id b hb=> ?_⟩
    rw [get_cons,if_neg]
    ·exact hb
    ·intro e
     subst e
     rw [s.not_in i1 i2] at hb
     cases hb
  ·cases hk
 ·cases hk
theorem formC_ok(s:Sm F N G st h)(hz:Fz.le z (fz F h)){form mid:Nat}{v:V}{u:Value}(hv:VR z G v u){K:V→St→Option R}{q:R}(hk:formC form mid v st K=some q) :
  ∃v' st' F' G',K v' st'=some q∧Step F N G st h F' G' st' h∧VR (fz F' h) G' v' u∧∀id cs,st.blks.get id=some (.var cs)→st'.blks.get id=some (.var cs):=by
 unfold formC at hk
 split at hk
 ·exact ⟨v,st,F,G,hk,Step.refl s,hv.mono hz (LeG.refl _),fun _ _ h=>h⟩
 ·unfold closeF at hk
  obtain ⟨x,h1,h2⟩:=close_ok hk
  obtain ⟨F',x1⟩:=step_freeze (G:=G) (N:=N) (h:=h) v.bufs s
  refine ⟨_,_,F',G,h1,x1,tr_v (h2 x1.sm (fun id hid own sz nn l hb=> ?_) (Fz.le_trans hz x1.le) hv),fun id cs hb=> ?_⟩
  ·rw [freeze_get,hb]
   simp [hid,ownOff]
  ·rw [freeze_get,hb]
   simp [ownOff]
 ·obtain ⟨v',st',G',h1,h2,h3,h4⟩:=toBuf_ok s hz hv hk
  exact ⟨v',st',F,G',h1,h2,h3,fun id cs hb=>h4 id _ hb⟩
theorem cellC_ok(s:Sm F N G st h){v:V}{mid c form:Nat}{K:St→Option R}{q:R}(hk:cellC st v mid c form K=some q) :
  ∃st' F' G',K st'=some q∧Step F N G st h F' G' st' h:=by
 unfold cellC at hk
 split at hk
 ·rename_i id i o
  split at hk
  ·rename_i b hg
   split at hk
   ·rename_i cs
    obtain ⟨u,hu,hk⟩:=getV_some hk
    obtain ⟨r,hG,b0,a1,a2,a3,a4⟩:=s.blk id _ hg
    obtain ⟨w,hw,hvw⟩:=a4.get hu
    obtain ⟨v',st1,F1,G1,h1,x1,h2,h3⟩:=formC_ok s (Fz.le_refl _) hvw hk
    obtain ⟨h4,h5⟩:=needC_some h1
    have hg1:=h3 id cs hg
    obtain ⟨r1,hG1,b1,c1,c2,c3,c4⟩:=x1.sm.blk id _ hg1
    have:=x1.g _ _ hG
    rw [hG1] at this
    cases this
    rw [a1] at c1
    cases c1
    refine ⟨_,F1,G1,h5,x1.trans (step_upd x1.sm hg1 rfl hG1 (by simp [kindOf]) rfl x1.sm.ok (Ext.refl _ _ _) rfl (fun _ _ _ _ _ _ _ _=>⟨rfl,rfl⟩) (fun c' hc q hq=>⟨c',hc,hq⟩) (fun L h1 _ _=>h1) ?_)⟩
    refine ⟨b0,a1,a2,a3, ?_⟩
    have hset:=c4.set c (x:=v') (y:=w) h2
    have:b0.cells.set c w=b0.cells:=by
     apply List.ext_getElem?
     intro k
     by_cases e:c=k
     ·subst e
      rw [hw]
      have:c<b0.cells.length:=by
       rcases Nat.lt_or_ge c b0.cells.length with h | h
       ·exact h
       ·rw [List.getElem?_eq_none h] at hw; cases hw
      rw [List.getElem?_set_self this]
     ·rw [List.getElem?_set_ne e]
    rw [this] at hset
    exact hset
   ·cases hk
  ·cases hk
 ·cases hk
theorem argC_ok(s:Sm F N G st h){own mid:Nat}{v:V}{u:Value}(hv:VR (fz F h) G v u){K:V→St→Option R}{q:R}(hk:argC own mid v st K=some q) :
  ∃v' st' G',K v' st'=some q∧Step F N G st h F G' st' h∧VR (fz F h) G' v' u:=by
 unfold argC at hk
 split at hk
 ·exact ⟨v,st,G,hk,Step.refl s,hv⟩
 ·obtain ⟨v',st',G',h1,h2,h3,_⟩:=toBuf_ok s (Fz.le_refl _) hv hk
  exact ⟨v',st',G',h1,h2,h3⟩
theorem argsC_ok{q:R} :∀{vs:List V} {us:List Value} {i:Nat} {own:List Nat} {G:GM} {st:St} {K:List V→St→Option R},Sm F N G st h→VRs (fz F h) G vs us→argsC i vs own st K=some q→
  ∃vs' st' G',K vs' st'=some q∧Step F N G st h F G' st' h∧VRs (fz F h) G' vs' us
 | [],us,i,own,G,st,K,s,hv,hk=>by
  cases hv
  exact ⟨[],st,G,hk,Step.refl s, .nil⟩
 | v::vs,us,i,own,G,st,K,s,hv,hk=>by
  cases hv with
  | cons a b=>
   rw [argsC] at hk
   obtain ⟨v',st1,G1,h1,x1,h2⟩:=argC_ok s a hk
   obtain ⟨vs',st2,G2,h3,x2,h4⟩:=argsC_ok x1.sm (b.mono (Fz.le_refl _) x1.g) h1
   exact ⟨_,st2,G2,h3,x1.trans x2, .cons (h2.mono (Fz.le_refl _) x2.g) h4⟩
theorem preC_ok{as:List V}{q:R} :∀{l:List (Nat×Nat×Nat)} {F:NS} {G:GM} {st:St} {K:St→Option R},Sm F N G st h→preC as l st K=some q→∃st' F' G',K st'=some q∧Step F N G st h F' G' st' h
 | [],F,G,st,K,s,hk=>⟨st,F,G,hk,Step.refl s⟩
 | (i,c,n)::l,F,G,st,K,s,hk=>by
  rw [preC] at hk
  split at hk
  ·obtain ⟨st1,F1,G1,h1,x1⟩:=cellC_ok s hk
   obtain ⟨st2,F2,G2,h2,x2⟩:=preC_ok x1.sm h1
   exact ⟨st2,F2,G2,h2,x1.trans x2⟩
  ·cases hk
theorem delAll_get :∀(ids:List Nat) (bs:Bs) (q:Nat),(delAll bs ids).get q=if q∈ids then none else bs.get q
 | [],bs,q=>by simp [delAll]
 | id::ids,bs,q=>by
  rw [delAll,delAll_get ids,get_del]
  by_cases h1:q∈ids
  ·simp [h1]
  ·by_cases h2:q=id
   ·simp [h2]
   ·simp [h1,h2]
theorem get_append :∀(a b:Bs) (q:Nat),Bs.get (a++b) q=match a.get q with | some x=>some x | none=>b.get q
 | [],b,q=>rfl
 | (i,x)::a,b,q=>by
  simp only [List.cons_append,Bs.get]
  cases i==q
  ·simp only [cond_false]
   exact get_append a b q
  ·simp only [cond_true]
theorem newIds_mem{met:List Nat}{key:Nat} :∀{l:List (Nat×BP)} {id:Nat},id∈newIds met key l↔∃j∈l.map (·.1),500≤j∧id=10000*(key+1)+j
 | [],id=>by simp [newIds]
 | (j,p)::l,id=>by
  unfold newIds
  cases hj:Nat.ble 500 j
  ·simp only [cond_false,newIds_mem,List.map_cons,List.mem_cons]
   have hj':¬500≤j:=fun h=>by rw [Nat.ble_eq_true_of_le h] at hj; cases hj
   constructor
   ·rintro ⟨k,h1,h2,h3⟩; exact ⟨k, .inr h1,h2,h3⟩
   ·rintro ⟨k,h1 | h1,h2,h3⟩
    ·subst h1; exact absurd h2 hj'
    ·exact ⟨k,h1,h2,h3⟩
  ·simp only [cond_true,List.mem_cons,newIds_mem,List.map_cons]
   have hj':=Nat.le_of_ble_eq_true hj
   constructor
   ·rintro (h1 | ⟨k,h1,h2,h3⟩)
    ·exact ⟨j, .inl rfl,hj',h1⟩
    ·exact ⟨k, .inr h1,h2,h3⟩
   ·rintro ⟨k,h1 | h1,h2,h3⟩
    ·subst h1; exact .inl h3
    ·exact .inr ⟨k,h1,h2,h3⟩
theorem get_key :∀{bs:Bs} {j:Nat} {b:Blk},bs.get j=some b→j∈bs.map (·.1)
 | [],j,b,h=>by cases h
 | (i,c)::bs,j,b,h=>by
  rw [get_cons] at h
  split at h
  ·rename_i e; simp [e]
  ·simp only [List.map_cons,List.mem_cons]; exact .inr (get_key h)
theorem bare_vr{p:VP}{v:V}{u:Value}(hb:bareP p=true)(hi:isP p v){z z':Fz}{G G':GM}(hv:VR z G v u) :VR z' G' v u:=by
 have sc:∀{q:TP1} {x:T} {u:Value},bare1 q=true→fits1 q x=true→SR z x u→SR z' x u:=by
  intro q x u h1 h2 h3
  cases h3 with
  | int k n=>exact .int k n
  | bool b=>exact .bool b
  | str s=>exact .str s
  | nil s=>cases q <;>simp_all [bare1,fits1]
  | list f a b c d=>cases q <;>simp_all [bare1,fits1]
 have one:∀{p:VP0} {v:V} {u:Value},bare0 p=true→isP0 p v→VR z G v u→VR z' G' v u:=by
  intro p v u hb hi hv
  cases p with
  | t tp=>
   obtain ⟨x,rfl,hx⟩:=hi
   cases tp with
   | one q=>
    have hx:fits1 q x=true:=hx
    cases vr_t hv with
    | one hr=>exact .t (sc hb hx hr)
    | agg hr=>have:=fits_scal hx; cases q <;>cases hx
   | agg ps=>
    obtain ⟨cs,rfl,hf⟩:=hx
    cases vr_t hv with
    | one hr=>cases hr
    | @agg _ a hcs=>
     refine .tagg ?_
     have hb':ps.all bare1=true:=hb
     clear hv hb
     generalize a.toList=us at hcs
     induction hf generalizing us with
     | nil=>cases hcs; exact .nil
     | cons h1 h2 ih=>
      simp only [List.all_cons,Bool.and_eq_true] at hb'
      cases hcs with
      | cons b1 b2=>exact .cons (sc hb'.1 h1 b1) (ih hb'.2 _ b2)
  | nilp=>
   cases hi
   cases hv with
   | con h=>exact .con h
  | buf id=>cases hb
  | ptr id i o=>cases hb
  | map id=>cases hb
  | agg ps=>cases hb
 cases p with
 | one p=>exact one hb hi hv
 | tup ps=>
  obtain ⟨vs,rfl,hi⟩:=hi
  cases hv with
  | @tup _ a hvs=>
   refine .tup ?_
   have hb':ps.all bare0=true:=hb
   generalize a.toList=us at hvs
   clear hb
   induction hi generalizing us with
   | nil=>cases hvs; exact .nil
   | cons h1 h2 ih=>
    simp only [List.all_cons,Bool.and_eq_true] at hb'
    cases hvs with
    | cons b1 b2=>exact .cons (one hb'.1 h1 b1) (ih hb'.2 _ b2)
theorem ow_wr{b:Blk}(h:ow b=true)(hk:realK (kindOf b)=true) :wr b=true:=by
 cases b with
 | arr own sz nn l=>have h1:own=true:=h; have h2:nn=true:=hk; subst h1 h2; rfl
 | rows sz l=>cases h
 | _=>rfl
def AlOk(al:Option (List Nat))(G:GM)(h h':Hp) :Prop:=
 match al with
 | none=>True
 | some l=>(l=[]→∀L,L≤h.low→L≤h.next→L≤h'.low)∧∀id∈l,∀r k,G id=some ⟨r,k⟩→realK k=true→h'.new r=h.new r
theorem tryH_some{R:Type}{v:V}{bs:Bs}{K:VP→List (Nat×BP)→Option R}{q:R} :∀{l:List (VP×List (Nat×BP))} {o:VP} {bl:List (Nat×BP)},tryH v bs K o bl l=some q→∃out blks,((out=o∧blks=bl)∨(out,blks)∈l)∧K out blks=some q
 | [],o,bl,h=>⟨o,bl, .inl ⟨rfl,rfl⟩,h⟩
 | a::l,o,bl,h=>by
  unfold tryH at h
  cases hf:fitsH o bl v bs <;>rw [hf] at h
  ·obtain ⟨out,blks,h1,h2⟩:=tryH_some (l:=l) h
   refine ⟨out,blks, .inr ?_,h2⟩
   rcases h1 with ⟨rfl,rfl⟩ | hm
   ·exact List.mem_cons_self ..
   ·exact List.mem_cons_of_mem _ hm
  ·exact ⟨o,bl, .inl ⟨rfl,rfl⟩,h⟩
theorem callH_ok{call:CallF}{callA:FuncId→List Value→Hp→Option (Value×Hp)}(hc:CallOKV call callA)(s:Sm F N G st h){as:List V}{us:List Value}(has:VRs (fz F h) G as us){ch:CallH}{key:Nat}{al:Option (List Nat)}{g:FuncId}{t:TypeId}{K:V→St→Option R}{q:R}
  (hk:callH P call ch key al g as t st K=some q):
  ∃v st' F' G' u h' ti,K v st'=some q∧Step F N G st h F' G' st' h'∧VR (fz F' h') G' v u∧P.info? t=some ti∧(∀(R:Type) (KA:Value→Hp→Option R),((callA g us h).bind fun r=>match ti.zero with | some zv=>like3C zv r.1 fun v=>KA v r.2 | none=>KA r.1 r.2)=KA u h')∧
   AlOk al G h h':=by
 unfold callH at hk
 split at hk
 ·cases hk
 rename_i ti hti
 obtain ⟨hvpz,hk⟩:=needC_some hk
 obtain ⟨as1,sta,Ga,hk,xa,hva⟩:=argsC_ok s has hk
 obtain ⟨st1,F1,G1,hk,xb⟩:=preC_ok xa.sm hk
 have x0:=xa.trans xb
 have s1:=x0.sm
 have hv1:VRs (fz F1 h) G1 as1 us:=hva.mono xb.le xb.g
 obtain ⟨Ff,xf⟩:=step_freeze (G:=G1) (N:=N) (h:=h) (lent as1 ch.own) s1
 dsimp only at hk
 generalize hbsf:st1.blks.freeze (lent as1 ch.own)=bsf at hk xf
 generalize hmet:reach bsf 200 (as1.flatMap refs2) []=met at hk
 obtain ⟨hal,hk⟩:=needC_some hk
 obtain ⟨⟨rv,bs,usr⟩,hr,hk⟩:=Option.bind_eq_some_iff.1 hk
 obtain ⟨out,blks,hform,hk⟩:=tryH_some hk
 have hvpz:vpz out ti.zero=true:=by
  simp only [Bool.and_eq_true,List.all_eq_true] at hvpz
  rcases hform with ⟨rfl,rfl⟩ | hm
  ·exact hvpz.1
  ·exact hvpz.2 _ hm
 obtain ⟨hnew,hk⟩:=needC_some hk
 obtain ⟨hk,hisP⟩:=fitP_is hk
 obtain ⟨hk,hkeys,hwr⟩:=fitBs_is hk
 dsimp only at hk hisP hkeys hwr
 simp only [Bool.and_eq_true] at hal
 have hmlen:met.length≤8:=Nat.le_of_ble_eq_true hal.1.2
 have hnorow:=List.all_eq_true.1 hal.2
 have hal:=hal.1.1
 let G2:GM:=fun j=>(met[j]?).bind G1
 let N2:NS:=fun r=>N r∨∃id b k,bsf.get id=some b∧wr b=true∧pos met 0 id=none∧G1 id=some ⟨r,k⟩
 have hn2:Named (pos met 0) G1 G2:=by
  intro id j g hj hg
  obtain ⟨_,h2⟩:=pos_some hj
  rw [Nat.sub_zero] at h2
  show (met[j]?).bind G1=some g
  rw [h2]
  exact hg
 have sf:=xf.sm
 have hpost:∀id r k,(∃b,bsf.get id=some b∧real b=true)→G1 id=some ⟨r,k⟩→∀id2 b2 k2,bsf.get id2=some b2→real b2=true→G1 id2=some ⟨r,k2⟩→id2=id:=by
  rintro id r k ⟨b,hb,hre⟩ hG id2 b2 k2 h1 h2 h3
  exact sf.inj _ _ _ _ _ _ _ h1 hb h2 hre h3 hG
 have s2:Sm Ff N2 G2 ⟨packB (pos met 0) bsf met,[]⟩ h:=by
  refine sf.sub hn2 (fun j b' hj=> ?_) (fun j g hg=> .inl ?_) (fun _ h=>h) ?_ ?_
  ·obtain ⟨id,b,_,h2,h3,h4⟩:=pack_get _ _ hj
   exact ⟨id,b,h2,h3,h4⟩
  ·rcases Nat.lt_or_ge j met.length with h | h
   ·omega
   ·have:(met[j]?).bind G1=some g:=hg
    rw [List.getElem?_eq_none h] at this
    cases this
  ·rintro r (hr | hr | ⟨id,b,k,h1,h2,_,h3⟩)
   ·exact sf.fLt r (.inl hr)
   ·exact sf.fLt r (.inr hr)
   ·exact (sf.lt h1 (wr_real h2) h3).2
  ·intro id b r k j h1 h2 h3 h4
   obtain ⟨p1,p2,p3⟩:=sf.apart id b r k h1 h3 h4
   refine ⟨p1, ?_,fun c hc q hq=> ?_⟩
   ·rintro (hr | ⟨id2,b2,k2,i1,i2,i3,i4⟩)
    ·exact p2 hr
    ·have:=hpost id r k ⟨b,h1,wr_real h3⟩ h4 id2 b2 k2 i1 (wr_real i2) i4
     subst this
     rw [h2] at i3
     cases i3
   ·obtain ⟨_,i1,i2,i3⟩:=p3 c hc q hq
    refine ⟨i1, ?_⟩
    rintro (hr | ⟨id2,b2,k2,j1,j2,_,j4⟩)
    ·exact i2 hr
    ·exact i3 id2 b2 k2 j1 (wr_real j2) j4
 have hv2:VRs (fz Ff h) G2 (as1.map (ren2 (pos met 0) bsf)) us:=ren2s_ok sf hn2 xf.le hv1
 obtain ⟨F3,G3,u,h',hcall,x3,hv3⟩:=hc g ch.w _ _ rv ⟨bs,usr⟩ hr Ff N2 G2 h us s2 (fun id g hg=>by
  rcases Nat.lt_or_ge id met.length with h | h
  ·omega
  ·have:(met[id]?).bind G1=some g:=hg
   rw [List.getElem?_eq_none h] at this
   cases this) hv2
 have s3:=x3.sm
 have hnu:∀id,id∈newIds met key blks→id∉st1.used:=by
  intro id hid
  rw [List.all_eq_true] at hnew
  have:=hnew id hid
  simpa using this
 have hn500:∀id,id∈newIds met key blks→500≤id:=by
  intro id hid
  obtain ⟨j,_,h1,h2⟩:=newIds_mem.1 hid
  omega
 let G':GM:=fun id=>if id∈newIds met key blks then G3 (id - 10000*(key+1)) else G1 id
 have hG1:∀id g,G1 id=some g→id∉newIds met key blks:=by
  intro id g hg hid
  rcases s1.gUsed id g hg with h | h
  ·have:=hn500 id hid; omega
  ·exact hnu id hid h
 have hle:LeG G1 G':=by
  intro id g hg
  show (if id∈newIds met key blks then _ else _)=_
  rw [if_neg (hG1 id g hg)]
  exact hg
 have hlow:∀j b,bs.get j=some b→j<8→∃id b0,met[j]? =some id∧bsf.get id=some b0∧pos met 0 id=some j∧∀g,G3 j=some g→G1 id=some g:=by
  intro j b hj hlt
  obtain ⟨b0,hb0,hGj⟩:=x3.ids j b hj hlt
  obtain ⟨id,b1,h1,h2,h3,rfl⟩:=pack_get _ _ hb0
  obtain ⟨_,h4⟩:=pos_some h3
  rw [Nat.sub_zero] at h4
  refine ⟨id,b1,h4,h2,h3,fun g hg=> ?_⟩
  obtain ⟨r0,h5,_⟩:=sf.blk id b1 h2
  have h6:=hn2 _ _ _ h3 h5
  rw [←hGj,hg] at h6
  cases h6
  exact h5
 have hn3:Named (backN met key bs) G3 G':=by
  intro j id g hj hg
  unfold backN at hj
  split at hj
  ·rename_i b hb
   cases h5:Nat.ble 500 j <;>rw [h5] at hj <;>simp only [cond_true,cond_false] at hj
   ·have h6:Nat.ble 8 j=false:=by
     cases h6:Nat.ble 8 j
     ·rfl
     ·rw [h6] at hj; cases hj
    rw [h6] at hj
    simp only [cond_false] at hj
    have hlt:j<8:=by
     rcases Nat.lt_or_ge j 8 with h | h
     ·exact h
     ·rw [Nat.ble_eq_true_of_le h] at h6; cases h6
    obtain ⟨id',b0,h1,h2,_,h3⟩:=hlow j b hb hlt
    rw [hj] at h1
    cases h1
    exact hle _ _ (h3 g hg)
   ·cases hj
    have hmem:10000*(key+1)+j∈newIds met key blks:=newIds_mem.2 ⟨j,by rw [←hkeys]; exact get_key hb,Nat.le_of_ble_eq_true h5,rfl⟩
    show (if _∈newIds met key blks then _ else _)=_
    rw [if_pos hmem,Nat.add_sub_cancel_left]
    exact hg
  ·cases hj
 obtain ⟨bsx,Fx,F'',hbx,sx,hf1,hfx,hrest,hbare⟩:∃(bsx:Bs) (Fx F'':NS),(bif bareP out &&blks.isEmpty then st1.blks else bsf)=bsx∧Sm Fx N G1 ⟨bsx,st1.used⟩ h∧Sub F1 F''∧Sub Fx F''∧
   (∀id b,bsx.get id=some b→∃bf,bsf.get id=some bf∧real bf=real b)∧((bsx=bsf∧Fx=Ff∧F''=F3)∨(bs=[]∧bareP out=true∧bsx=st1.blks∧F''=F1∧Fx=F1)):=by
  cases hb:(bareP out &&blks.isEmpty)
  ·exact ⟨bsf,Ff,F3,rfl,sf,fun r hr=>x3.f r (xf.f r hr),x3.f,fun id b hb=>⟨b,hb,rfl⟩, .inl ⟨rfl,rfl,rfl⟩⟩
  ·simp only [Bool.and_eq_true,List.isEmpty_iff] at hb
   have hbse:bs=[]:=by
    have:=hkeys
    rw [hb.2] at this
    simpa using this
   refine ⟨st1.blks,F1,F1,rfl,s1,fun _ h=>h,fun _ h=>h,fun id b hid=> ?_, .inr ⟨hbse,hb.1,rfl,rfl,rfl⟩⟩
   rw [←hbsf,freeze_get,hid]
   refine ⟨_,rfl, ?_⟩
   split
   ·cases b <;>rfl
   ·rfl
 have hF3:Sub F'' F3:=by
  rcases hbare with ⟨_,_,rfl⟩ | ⟨_,_,_,rfl,_⟩
  ·exact fun _ h=>h
  ·exact fun r hr=>x3.f r (xf.f r hr)
 rw [hbx] at hk
 refine ⟨_,_,F'',G',u,h',ti,hk, ?_, ?_,hti, ?_, ?_⟩
 ·-- the state
  refine x0.trans ?_
  have hrb:∀id b r k,bsx.get id=some b→id∉met→real b=true→G1 id=some ⟨r,k⟩→Ff r∨N2 r:=by
   intro id b r k h1 h2 h3 h4
   obtain ⟨bf,i1,i2⟩:=hrest id b h1
   have hp:pos met 0 id=none:=by
    cases hp:pos met 0 id with
    | none=>rfl
    | some j=>
     obtain ⟨_,h5⟩:=pos_some hp
     exact absurd (List.mem_of_getElem? h5) h2
   cases hw:wr bf
   ·have:=(sf.br i1 h4).2
    cases bf with
    | arr own sz nn l=>
     have hnn:nn=true:=by rw [h3] at i2; simpa [real] using i2
     subst hnn
     have how:own=false:=by simpa [wr] using hw
     subst how
     rcases this with ⟨h,_⟩ | ⟨_,c,_,_,_,_,h⟩
     ·cases h
     ·exact .inl (h rfl)
    | rows sz l=>rw [h3] at i2; cases i2
    | _=>cases hw
   ·exact .inr (.inr ⟨id,bf,k,i1,hw,hp,h4⟩)
  have hst:∀id b,Bs.get (packB (backN met key bs) bs (bs.map (·.1))++delAll bsx met) id=some b→(∃j b0,bs.get j=some b0∧backN met key bs j=some id∧b=renB (backN met key bs) bs b0)∨(id∉met∧bsx.get id=some b):=by
   intro id b hid
   rw [get_append] at hid
   split at hid
   ·rename_i x hx
    cases hid
    obtain ⟨j,b0,_,h2,h3,h4⟩:=pack_get _ _ hx
    exact .inl ⟨j,b0,h2,h3,h4⟩
   ·rw [delAll_get] at hid
    split at hid
    ·cases hid
    ·rename_i h1; exact .inr ⟨h1,hid⟩
  have hst2:∀j b k r,(packB (pos met 0) bsf met).get j=some b→real b=true→G2 j=some ⟨r,k⟩→∃id b0,bsf.get id=some b0∧real b0=true∧id∈met∧G1 id=some ⟨r,k⟩:=by
   intro j b k r h1 h2 h3
   obtain ⟨id,b0,hm,h4,h5,rfl⟩:=pack_get _ _ h1
   rw [(renB_kind _ _ _).2.1] at h2
   obtain ⟨r',h6,_⟩:=sf.blk id b0 h4
   have:=hn2 _ _ _ h5 h6
   rw [h3] at this
   cases this
   exact ⟨id,b0,h4,h2,hm,h6⟩
  have hap3:∀id b r k,bsx.get id=some b→id∉met→wr b=true→G1 id=some ⟨r,k⟩→¬F'' r∧¬N r∧∀c,h.new r=some c→∀p∈c.par,p<r∧¬F'' p∧¬N p∧∀id2 b2 k2,bsx.get id2=some b2→real b2=true→G1 id2 ≠some ⟨p,k2⟩:=by
   intro id b r k h1 h2 h3 h4
   obtain ⟨p1,p2,p3⟩:=sx.apart id b r k h1 h3 h4
   have hlt:=(sx.lt h1 (wr_real h3) h4).2
   rcases hbare with ⟨rfl,rfl,rfl⟩ | ⟨_,_,rfl,rfl,rfl⟩
   ·-- what is frozen in the call was frozen here, or is the call's
    have hno:∀p,p<h.next→(∀id2 b2 k2,bsx.get id2=some b2→real b2=true→id2∈met→G1 id2 ≠some ⟨p,k2⟩)→¬Fx p→¬F'' p:=by
     intro p q2 q3 q4 hp
     rcases x3.fo p hp with h | h | ⟨j,b2,k2,a1,a2,a3⟩
     ·exact q4 h
     ·omega
     ·obtain ⟨id2,b3,e1,e2,e3,e4⟩:=hst2 j b2 k2 p a1 a2 a3
      exact q3 id2 b3 k2 e1 e2 e3 e4
    refine ⟨hno r hlt (fun id2 b2 k2 g1 g2 g3 e=>h2 ((hpost id r k ⟨b,h1,wr_real h3⟩ h4 id2 b2 k2 g1 g2 e)▸g3)) p1,p2,fun c hc p hp=> ?_⟩
    obtain ⟨q1,q2,q3,q4⟩:=p3 c hc p hp
    exact ⟨q1,hno p (by omega) (fun id2 b2 k2 g1 g2 _=>q4 id2 b2 k2 g1 g2) q2,q3,q4⟩
   ·exact ⟨p1,p2,p3⟩
  have hgold:∀id b,bsx.get id=some b→∃r,G1 id=some ⟨r,kindOf b⟩∧G' id=some ⟨r,kindOf b⟩∧BR Fx N G1 h r b:=by
   intro id b h1
   obtain ⟨r0,h2,h3⟩:=sx.blk id b h1
   exact ⟨r0,h2,hle _ _ h2,h3⟩
  have hgret:∀j b0 id,bs.get j=some b0→backN met key bs j=some id→∃r0,G3 j=some ⟨r0,kindOf b0⟩∧G' id=some ⟨r0,kindOf b0⟩∧BR F3 N2 G3 h' r0 b0:=by
   intro j b0 id h1 h2
   obtain ⟨r0,h3,h4⟩:=s3.blk j b0 h1
   exact ⟨r0,h3,hn3 _ _ _ h2 h3,h4⟩
  have hF3':bs ≠[]→F''=F3:=by
   intro hne
   rcases hbare with ⟨_,_,h⟩ | ⟨h,_⟩
   ·exact h
   ·exact absurd h hne
  have hbsne:∀{j b0},bs.get j=some b0→bs ≠[]:=by
   intro j b0 hj e
   rw [e] at hj
   cases hj
  have hcross:∀j b0 id1 id2 b2 r0 k1 k2,bs.get j=some b0→backN met key bs j=some id1→real b0=true→G3 j=some ⟨r0,k1⟩→id2∉met→bsx.get id2=some b2→real b2=true→G1 id2=some ⟨r0,k2⟩→False:=by
   intro j b0 id1 id2 b2 r0 k1 k2 h1 h2 h3 h4 h5 h6 h7 h8
   obtain ⟨p1,p2,_⟩:=s3.apart j b0 r0 k1 h1 (hwr j b0 h1 h3) h4
   rcases hrb id2 b2 r0 k2 h6 h5 h7 h8 with h | h
   ·exact p1 (x3.f _ h)
   ·exact p2 h
  have xext:Ext F1 N h h':=⟨x3.ext.base,x3.ext.old,x3.ext.next,fun r hr=>x3.ext.keep r (hr.imp (fun h=>xf.f r h) fun h=> .inl h),x3.ext.low⟩
  have xextx:Ext Fx N h h':=by
   refine ⟨x3.ext.base,x3.ext.old,x3.ext.next,fun r hr=>x3.ext.keep r (hr.imp (fun h=> ?_) fun h=> .inl h),x3.ext.low⟩
   rcases hbare with ⟨_,rfl,_⟩ | ⟨_,_,_,_,rfl⟩
   ·exact h
   ·exact xf.f r h
  have hkeep:∀id b r k,bsx.get id=some b→id∉met→real b=true→G1 id=some ⟨r,k⟩→h'.new r=h.new r∧h'.maps r=h.maps r:=fun id b r k h1 h2 h3 h4=>x3.ext.keep r (hrb id b r k h1 h2 h3 h4)
  have horig:∀j b0 r0 k0,bs.get j=some b0→real b0=true→G3 j=some ⟨r0,k0⟩→h.next≤r0∨∃id b k,bsf.get id=some b∧real b=true∧id∈met∧G1 id=some ⟨r0,k⟩:=by
   intro j b0 r0 k0 h1 h2 h3
   rcases x3.ori j b0 r0 k0 h1 h2 h3 with h | ⟨j0,b1,k1,a1,a2,a3⟩
   ·exact .inl h
   ·obtain ⟨id,b2,e1,e2,e3,e4⟩:=hst2 j0 b1 k1 r0 a1 a2 a3
    exact .inr ⟨id,b2,k1,e1,e2,e3,e4⟩
  have hst1:∀id b,bsf.get id=some b→real b=true→∃b1,st1.blks.get id=some b1∧real b1=true:=by
   intro id b h1 h2
   rw [←hbsf,freeze_get] at h1
   obtain ⟨b1,h3,h4⟩:=Option.map_eq_some_iff.1 h1
   refine ⟨b1,h3, ?_⟩
   rw [←h4] at h2
   split at h2
   ·cases b1 <;>simpa [ownOff,real] using h2
   ·exact h2
  refine ⟨⟨s3.ok, ?_, ?_, ?_, ?_, ?_⟩,hf1,hle,xext, ?_, ?_, ?_, ?_, ?_⟩
  ·rintro r (hr | hr)
   ·exact s3.fLt r (.inl (hF3 r hr))
   ·exact s3.fLt r (.inr (.inl hr))
  ·intro id b hid
   rcases hst id b hid with ⟨j,b0,h1,h2,rfl⟩ | ⟨h1,h2⟩
   ·obtain ⟨r0,_,h4,h5⟩:=hgret j b0 id h1 h2
    refine ⟨r0,by rw [(renB_kind _ _ _).1]; exact h4, ?_⟩
    rw [hF3' (hbsne h1)]
    have:=renB_ok (F2:=F3) (N2:=N) s3 (σ:=backN met key bs) (G2:=G') hn3 (fun _ h=>h) h5
    exact this
   ·obtain ⟨r0,h3,h4,h5⟩:=hgold id b h2
    exact ⟨r0,h4,h5.keep (fun hre=>hkeep id b r0 _ h2 h1 hre h3) xextx hfx hle⟩
  ·intro id1 b1 id2 b2 r0 k1 k2 g1 g2 r1 r2 e1 e2
   rcases hst _ _ g1 with ⟨j1,c1,a1,a2,rfl⟩ | ⟨a1,a2⟩ <;>rcases hst _ _ g2 with ⟨j2,c2,d1,d2,rfl⟩ | ⟨d1,d2⟩
   ·rw [(renB_kind _ _ _).2.1] at r1 r2
    obtain ⟨q1,f1,f2,_⟩:=hgret _ _ _ a1 a2
    obtain ⟨q2,i1,i2,_⟩:=hgret _ _ _ d1 d2
    rw [e1] at f2
    rw [e2] at i2
    cases f2
    cases i2
    have:=s3.inj j1 c1 j2 c2 r0 _ _ a1 d1 r1 r2 f1 i1
    subst this
    rw [a2] at d2
    exact Option.some.inj d2
   ·rw [(renB_kind _ _ _).2.1] at r1
    obtain ⟨q1,f1,f2,_⟩:=hgret _ _ _ a1 a2
    obtain ⟨q2,i1,i2,_⟩:=hgold _ _ d2
    rw [e1] at f2
    rw [e2] at i2
    cases f2
    cases i2
    exact absurd (hcross j1 c1 id1 id2 b2 r0 _ _ a1 a2 r1 f1 d1 d2 r2 i1) id
   ·rw [(renB_kind _ _ _).2.1] at r2
    obtain ⟨q1,f1,f2,_⟩:=hgret _ _ _ d1 d2
    obtain ⟨q2,i1,i2,_⟩:=hgold _ _ a2
    rw [e2] at f2
    rw [e1] at i2
    cases f2
    cases i2
    exact absurd (hcross j2 c2 id2 id1 b1 r0 _ _ d1 d2 r2 f1 a1 a2 r1 i1) id
   ·obtain ⟨q1,f1,f2,_⟩:=hgold _ _ a2
    obtain ⟨q2,i1,i2,_⟩:=hgold _ _ d2
    rw [e1] at f2
    rw [e2] at i2
    cases f2
    cases i2
    exact sx.inj _ _ _ _ _ _ _ a2 d2 r1 r2 f1 i1
  ·intro id b r0 k hid hw hG
   rcases hst _ _ hid with ⟨j,c,a1,a2,rfl⟩ | ⟨a1,a2⟩
   ·rw [(renB_kind _ _ _).2.2] at hw
    obtain ⟨q1,f1,f2,_⟩:=hgret _ _ _ a1 a2
    rw [hG] at f2
    cases f2
    obtain ⟨p1,p2,p3⟩:=s3.apart j c r0 _ a1 hw f1
    refine ⟨by rw [hF3' (hbsne a1)]; exact p1,fun h=>p2 (.inl h),fun d hd p hp=> ?_⟩
    obtain ⟨i1,i2,i3,i4⟩:=p3 d hd p hp
    refine ⟨i1,by rw [hF3' (hbsne a1)]; exact i2,fun h=>i3 (.inl h),fun id2 b2 k2 g2 r2 e2=> ?_⟩
    rcases hst _ _ g2 with ⟨j2,c2,d1,d2,rfl⟩ | ⟨d1,d2⟩
    ·rw [(renB_kind _ _ _).2.1] at r2
     obtain ⟨q2,m1,m2,_⟩:=hgret _ _ _ d1 d2
     rw [e2] at m2
     cases m2
     exact i4 j2 c2 _ d1 r2 m1
    ·obtain ⟨q2,m1,m2,_⟩:=hgold _ _ d2
     rw [e2] at m2
     cases m2
     rcases hrb id2 b2 p _ d2 d1 r2 m1 with h | h
     ·exact i2 (x3.f _ h)
     ·exact i3 h
   ·obtain ⟨q1,f1,f2,_⟩:=hgold _ _ a2
    rw [hG] at f2
    cases f2
    obtain ⟨p1,p2,p3⟩:=hap3 id b r0 _ a2 a1 hw f1
    have hlt:=(sx.lt a2 (wr_real hw) f1).2
    refine ⟨p1,p2,fun d hd p hp=> ?_⟩
    rw [(hkeep id b r0 _ a2 a1 (wr_real hw) f1).1] at hd
    obtain ⟨i1,i2,i3,i4⟩:=p3 d hd p hp
    refine ⟨i1,i2,i3,fun id2 b2 k2 g2 r2 e2=> ?_⟩
    rcases hst _ _ g2 with ⟨j2,c2,d1,d2,rfl⟩ | ⟨d1,d2⟩
    ·rw [(renB_kind _ _ _).2.1] at r2
     obtain ⟨q2,m1,m2,_⟩:=hgret _ _ _ d1 d2
     rw [e2] at m2
     cases m2
     rcases horig j2 c2 p _ d1 r2 m1 with h | ⟨id3,b3,k3,n1,n2,n3,n4⟩
     ·omega
     ·obtain ⟨b4,o1,o2⟩:∃b4,bsx.get id3=some b4∧real b4=true:=by
       rcases hbare with ⟨rfl,_⟩ | ⟨_,_,rfl,_⟩
       ·exact ⟨b3,n1,n2⟩
       ·exact hst1 id3 b3 n1 n2
      exact i4 id3 b4 k3 o1 o2 n4
    ·obtain ⟨q2,m1,m2,_⟩:=hgold _ _ d2
     rw [e2] at m2
     cases m2
     exact i4 id2 b2 _ d2 r2 m1
  ·intro id g hg
   show id<500∨id∈newIds met key blks++st1.used
   by_cases hid:id∈newIds met key blks
   ·exact .inr (List.mem_append_left _ hid)
   ·have:G1 id=some g:=by
     have hg':(if id∈newIds met key blks then G3 (id - 10000*(key+1)) else G1 id)=some g:=hg
     rw [if_neg hid] at hg'
     exact hg'
    exact (s1.gUsed id g this).imp (fun h=>h) (List.mem_append_right _)
  ·intro L hL
   have hL2:Lw L G2 ⟨packB (pos met 0) bsf met,[]⟩ h:=by
    refine ⟨hL.low,hL.next,fun j b r0 k h1 h2 h3=> ?_⟩
    obtain ⟨id,b0,hm,h4,h5,rfl⟩:=pack_get _ _ h1
    rw [(renB_kind _ _ _).2.2] at h2
    obtain ⟨r',h6,_⟩:=sf.blk id b0 h4
    have:=hn2 _ _ _ h5 h6
    rw [h3] at this
    cases this
    exact (xf.lw L hL).blk id b0 r0 _ h4 h2 h6
   have hL3:=x3.lw L hL2
   refine ⟨hL3.low,hL3.next,fun id b r0 k hid hw hG=> ?_⟩
   rcases hst _ _ hid with ⟨j,c,a1,a2,rfl⟩ | ⟨a1,a2⟩
   ·rw [(renB_kind _ _ _).2.2] at hw
    obtain ⟨q1,f1,f2,_⟩:=hgret _ _ _ a1 a2
    rw [hG] at f2
    cases f2
    exact hL3.blk j c r0 _ a1 hw f1
   ·obtain ⟨q1,f1,f2,_⟩:=hgold _ _ a2
    rw [hG] at f2
    cases f2
    have hLx:Lw L G1 ⟨bsx,st1.used⟩ h:=by
     rcases hbare with ⟨rfl,_⟩ | ⟨_,_,rfl,_⟩
     ·exact xf.lw L hL
     ·exact hL
    obtain ⟨e1,e2⟩:=hLx.blk id b r0 _ a2 hw f1
    exact ⟨e1,fun d hd=>e2 d (by rw [←(hkeep id b r0 _ a2 a1 (wr_real hw) f1).1]; exact hd)⟩
  ·intro id b r0 k hid hre hG
   rcases hst _ _ hid with ⟨j,c,a1,a2,rfl⟩ | ⟨a1,a2⟩
   ·rw [(renB_kind _ _ _).2.1] at hre
    obtain ⟨q1,f1,f2,_⟩:=hgret _ _ _ a1 a2
    rw [hG] at f2
    cases f2
    rcases horig j c r0 _ a1 hre f1 with h | ⟨id3,b3,k3,n1,n2,_,n4⟩
    ·exact .inl h
    ·obtain ⟨b4,o1,o2⟩:=hst1 id3 b3 n1 n2
     exact .inr ⟨id3,b4,k3,o1,o2,n4⟩
   ·obtain ⟨q1,f1,f2,_⟩:=hgold _ _ a2
    rw [hG] at f2
    cases f2
    obtain ⟨b4,o1,o2⟩:∃b4,st1.blks.get id=some b4∧real b4=true:=by
     rcases hbare with ⟨rfl,_⟩ | ⟨_,_,rfl,_⟩
     ·exact hst1 id b a2 hre
     ·exact ⟨b,a2,hre⟩
    exact .inr ⟨id,b4,_,o1,o2,f1⟩
  ·intro id b hid hlt
   have hbx1:∀id b,bsf.get id=some b→∃b1,st1.blks.get id=some b1:=by
    intro id b h1
    rw [←hbsf,freeze_get] at h1
    obtain ⟨b1,h3,_⟩:=Option.map_eq_some_iff.1 h1
    exact ⟨b1,h3⟩
   rcases hst _ _ hid with ⟨j,c,a1,a2,rfl⟩ | ⟨a1,a2⟩
   ·unfold backN at a2
    rw [a1] at a2
    cases h5:Nat.ble 500 j <;>rw [h5] at a2 <;>simp only [cond_true,cond_false] at a2
    ·have h6:Nat.ble 8 j=false:=by
      cases h6:Nat.ble 8 j
      ·rfl
      ·rw [h6] at a2; cases a2
     rw [h6] at a2
     simp only [cond_false] at a2
     have hjl:j<8:=by
      rcases Nat.lt_or_ge j 8 with h | h
      ·exact h
      ·rw [Nat.ble_eq_true_of_le h] at h6; cases h6
     obtain ⟨id',b0,e1,e2,_,_⟩:=hlow j c a1 hjl
     rw [a2] at e1
     cases e1
     exact hbx1 _ _ e2
    ·cases a2
     omega
   ·rcases hbare with ⟨rfl,_⟩ | ⟨_,_,rfl,_⟩
    ·exact hbx1 _ _ a2
    ·exact ⟨b,a2⟩
  ·intro r0 hr0
   rcases hbare with ⟨_,_,rfl⟩ | ⟨_,_,_,rfl,_⟩
   ·rcases x3.fo r0 hr0 with h | h | ⟨j,b2,k2,a1,a2,a3⟩
    ·rcases xf.fo r0 h with h | h | h
     ·exact .inl h
     ·exact .inr (.inl h)
     ·exact .inr (.inr h)
    ·exact .inr (.inl h)
    ·obtain ⟨id2,b3,e1,e2,_,e4⟩:=hst2 j b2 k2 r0 a1 a2 a3
     obtain ⟨b4,o1,o2⟩:=hst1 id2 b3 e1 e2
     exact .inr (.inr ⟨id2,b4,k2,o1,o2,e4⟩)
   ·exact .inl hr0
  ·have hren:∀(σ:Nat→Option Nat) (bs:Bs) (b:Blk),isRows (renB σ bs b)=true→isRows b=true:=fun σ bs b h=>by
    cases b <;>simpa [renB,isRows] using h
   have hfr:∀id b,bsf.get id=some b→isRows b=true→st1.blks.get id=some b:=by
    intro id b h1 h2
    rw [←hbsf,freeze_get] at h1
    obtain ⟨b1,h3,h4⟩:=Option.map_eq_some_iff.1 h1
    rw [h3,←h4]
    split
    ·rename_i hm
     rw [if_pos hm] at h4
     subst h4
     cases b1 <;>first | rfl | (cases h2; done)
    ·rfl
   intro id b hid hrw
   rcases hst _ _ hid with ⟨j,c,a1,a2,rfl⟩ | ⟨a1,a2⟩
   ·obtain ⟨id0,g0,c1,_,_⟩:=x3.rows j c a1 (hren _ _ _ hrw)
    obtain ⟨id1,b1,hm,h4,_,rfl⟩:=pack_get _ _ c1
    have h6:=hnorow id1 hm
    unfold rowsAt at h6
    rw [h4] at h6
    have h7:=hren _ _ _ (hren _ _ _ hrw)
    dsimp only at h6
    rw [h7] at h6
    cases h6
   ·rcases hbare with ⟨rfl,_⟩ | ⟨_,_,rfl,_⟩
    ·exact hfr _ _ a2 hrw
    ·exact a2
 ·rcases hbare with ⟨_,_,rfl⟩ | ⟨hbse,hbp,_,rfl,_⟩
  ·have:=ren3_ok s3 hn3 (Fz.le_refl _) hv3
   exact this
  ·have h1:=ren3_ok s3 hn3 (Fz.le_refl _) hv3
   refine bare_vr hbp ?_ h1
   have one:∀{p:VP0} {v:V},bare0 p=true→isP0 p v→ren2 (backN met key bs) bs v=v:=by
    intro p v hb hi
    cases p with
    | t tp=>obtain ⟨x,rfl,_⟩:=hi; rfl
    | nilp=>cases hi; rfl
    | buf id=>cases hb
    | ptr id i o=>cases hb
    | map id=>cases hb
    | agg ps=>cases hb
   have hren:ren3 (backN met key bs) bs rv=rv:=by
    cases hout:out with
    | one p=>
     rw [hout] at hbp hisP
     have hi:isP0 p rv:=hisP
     have h2:=one hbp hi
     cases p with
     | t tp=>obtain ⟨x,hx,_⟩:=hi; rw [hx]; rfl
     | nilp=>have hi:rv= .con (.pointer none):=hi; rw [hi]; rfl
     | buf id=>cases hbp
     | ptr id i o=>cases hbp
     | map id=>cases hbp
     | agg ps=>cases hbp
    | tup ps=>
     rw [hout] at hbp hisP
     obtain ⟨vs,hvs,hi⟩:=hisP
     rw [hvs]
     show V.tup (vs.map _)=_
     congr 1
     have hb':ps.all bare0=true:=hbp
     clear hvs hbp hout
     induction hi with
     | nil=>rfl
     | cons h1 h2 ih=>
      simp only [List.all_cons,Bool.and_eq_true] at hb'
      rw [List.map_cons,one hb'.1 h1,ih hb'.2]
   rw [hren]
   exact hisP
 ·intro R KA
  rw [hcall]
  exact like3_ok hvpz hisP hv3 h' KA
 ·cases al with
  | none=>exact trivial
  | some l=>
   cases l with
   | nil=>
    refine ⟨fun _ L hL1 hL2=> ?_,fun id h=>(nomatch h)⟩
    have hm:met=[]:=by simpa [aloneOk] using hal
    subst hm
    exact (x3.lw L ⟨hL1,hL2,fun id b r k h1=>by cases h1⟩).low
   | cons id0 l=>
    refine ⟨fun h=>(nomatch h),fun id hid r k hG hrk=> ?_⟩
    have hone:=List.all_eq_true.1 hal id hid
    simp only [Bool.and_eq_true,Bool.not_eq_true',List.contains_eq_mem,decide_eq_false_iff_not] at hone
    obtain ⟨hnm,hwb⟩:=hone
    unfold owB at hwb
    split at hwb
    ·rename_i b hb
     have hp:pos met 0 id=none:=by
      cases hp:pos met 0 id with
      | none=>rfl
      | some j=>
       obtain ⟨_,h5⟩:=pos_some hp
       exact absurd (List.mem_of_getElem? h5) hnm
     obtain ⟨r2,hG2,_⟩:=sf.blk id b hb
     have hG1:=x0.g _ _ hG
     rw [hG1] at hG2
     cases hG2
     exact (x3.ext.keep r (.inr (.inr ⟨id,b,_,hb,ow_wr hwb hrk,hp,hG1⟩))).1
    ·cases hwb
end
end Go.Proofs.Ytpfploolkmcalaa.VM
end
section
namespace Go.Proofs.Ytpfploolkmcalaa.VM
open Go AM
set_option linter.unusedSectionVars false
set_option linter.unusedSimpArgs false
set_option linter.unusedVariables false
def quietB(ev:Operand→V)(o:Oper) :Bool:=(match cls o with | .acts=>false | _=>true) &&readOnly o ev
section
variable {F F' N:NS} {G G' G2:GM} {st st':St} {h h':Hp} {R:Type} {z:Fz} (P:Program)
def OpOK(HA:AM.Hint)(callA:FuncId→List Value→Hp→Option (Value×Hp))(F N:NS)(G:GM)(st:St)(h:Hp)(e:Env)(eA:AM.Env)(o:Oper)(al:Option (List Nat))(K:V→St→Option R)(q:R) :Prop:=
 ∃v st' F' G' u h',K v st'=some q∧Step F N G st h F' G' st' h'∧VR (fz F' h') G' v u∧(∀(S:Type) (KA:Value→Hp→Option S),opC P HA callA eA.eval o h KA=KA u h')∧
  (wildB o=true→AlOk al G h h')∧(quietB (evV e) o=true→st'=st∧h'=h∧F'=F∧G'=G)
variable {HA:AM.Hint} {callA:FuncId→List Value→Hp→Option (Value×Hp)} {e:Env} {eA:AM.Env} {o:Oper} {al:Option (List Nat)} {K:V→St→Option R} {q:R}
theorem OpOK.quiet(s:Sm F N G st h){v:V}{u:Value}(hk:K v st=some q)(hv:VR (fz F h) G v u)(hop:∀(S:Type) (KA:Value→Hp→Option S),opC P HA callA eA.eval o h KA=KA u h)(hn:wildB o=false) :OpOK P HA callA F N G st h e eA o al K q:=
 ⟨v,st,F,G,u,h,hk,Step.refl s,hv,hop,fun hb=>(by rw [hn] at hb; cases hb),fun _=>⟨rfl,rfl,rfl,rfl⟩⟩
theorem OpOK.acts{v:V}{u:Value}(hk:K v st'=some q)(hs:Step F N G st h F' G' st' h')(hv:VR (fz F' h') G' v u)(hop:∀(S:Type) (KA:Value→Hp→Option S),opC P HA callA eA.eval o h KA=KA u h')(hn:wildB o=false)(hq:quietB (evV e) o=false) :OpOK P HA callA F N G st h e eA o al K q:=
 ⟨v,st',F',G',u,h',hk,hs,hv,hop,fun hb=>(by rw [hn] at hb; cases hb),fun hb=>(by rw [hq] at hb; cases hb)⟩
theorem step_var(s:Sm F N G st h){id:Nat}{cs:List V}{us:List Value}(h1:500≤id)(h2:id∉st.used)(hv:VRs (fz F h) G cs us)(sz:Nat) :
  Step F N G st h F (setG G id ⟨h.next, .var cs.length⟩) ⟨(id, .var cs)::st.blks,id::st.used⟩ (h.alloc us sz []):=by
 have x:Ext F N h (h.alloc us sz []):=⟨rfl,rfl,Nat.le_succ _,fun r hr=>⟨by have:=s.fLt r hr; rw [alloc_new,if_neg (by omega)],rfl⟩,fun r hr=>by have:=s.ok.next; rw [alloc_new,if_neg (by omega)]⟩
 refine step_new s h1 h2 (b:= .var cs) (ok_alloc s.ok _ _ _) x (fun r hr=>⟨by rw [alloc_new,if_neg (by omega)],rfl⟩) (fun c hc=> ?_) rfl rfl ?_ rfl
 ·rw [alloc_at] at hc; cases hc; rfl
 ·exact ⟨_,alloc_at h us sz [],rfl,rfl,(hv.mono (x.fz fun _ h=>h) (LeG.refl _)).all⟩
theorem step_av(s:Sm F N G st h){id:Nat}{cs:List T}{us:List Value}(h1:500≤id)(h2:id∉st.used)(hv:SRs (fz F h) cs us)(sz:Nat) :
  Step F N G st h F (setG G id ⟨h.next, .av cs.length⟩) ⟨(id, .av cs)::st.blks,id::st.used⟩ (h.alloc us sz []):=by
 have x:Ext F N h (h.alloc us sz []):=⟨rfl,rfl,Nat.le_succ _,fun r hr=>⟨by have:=s.fLt r hr; rw [alloc_new,if_neg (by omega)],rfl⟩,fun r hr=>by have:=s.ok.next; rw [alloc_new,if_neg (by omega)]⟩
 refine step_new s h1 h2 (b:= .av cs) (ok_alloc s.ok _ _ _) x (fun r hr=>⟨by rw [alloc_new,if_neg (by omega)],rfl⟩) (fun c hc=> ?_) rfl rfl ?_ rfl
 ·rw [alloc_at] at hc; cases hc; rfl
 ·exact ⟨_,alloc_at h us sz [],rfl,rfl,hv.imp fun _ _ hv=>hv.mono (x.fz fun _ h=>h)⟩
theorem step_arr(s:Sm F N G st h){id:Nat}{l:List T}{us:List Value}(h1:500≤id)(h2:id∉st.used)(sz:Nat)(hv:Cells (fz F h) sz l us) :
  Step F N G st h F (setG G id ⟨h.next, .arr sz true l.length⟩) ⟨(id, .arr true sz true l)::st.blks,id::st.used⟩ (h.alloc us sz []):=by
 have x:Ext F N h (h.alloc us sz []):=⟨rfl,rfl,Nat.le_succ _,fun r hr=>⟨by have:=s.fLt r hr; rw [alloc_new,if_neg (by omega)],rfl⟩,fun r hr=>by have:=s.ok.next; rw [alloc_new,if_neg (by omega)]⟩
 refine step_new s h1 h2 (b:= .arr true sz true l) (ok_alloc s.ok _ _ _) x (fun r hr=>⟨by rw [alloc_new,if_neg (by omega)],rfl⟩) (fun c hc=> ?_) rfl rfl ?_ rfl
 ·rw [alloc_at] at hc; cases hc; rfl
 ·exact .inr ⟨rfl,_,alloc_at h us sz [],rfl,hv.mono (x.fz fun _ h=>h),fun _=>rfl,fun h=>nomatch h⟩
theorem step_map(s:Sm F N G st h){id:Nat}(h1:500≤id)(h2:id∉st.used) :
  Step F N G st h F (setG G id ⟨h.next, .map⟩) ⟨(id, .map [])::st.blks,id::st.used⟩ h.allocMap:=by
 have hm:∀r,r ≠h.next→h.allocMap.maps r=h.maps r:=fun r hr=>by
  unfold Hp.allocMap
  have:(r==h.next)=false:=by simpa using hr
  simp [this]
 have hself:h.allocMap.maps h.next=some []:=by unfold Hp.allocMap; simp
 have x:Ext F N h h.allocMap:=⟨rfl,rfl,Nat.le_succ _,fun r hr=>⟨rfl,hm r (by have:=s.fLt r hr; omega)⟩,fun _ _=>rfl⟩
 refine step_new s h1 h2 (b:= .map []) ⟨fun r b hb=> ?_,fun r es hr=> ?_,s.ok.old, ?_⟩ x (fun r hr=>⟨rfl,hm r (by omega)⟩) (fun c hc=> ?_) rfl rfl ?_ rfl
 ·have:=s.ok.new r b hb; exact ⟨this.1,by show r<h.next+1; omega⟩
 ·show h.base≤r∧r<h.next+1
  by_cases e:r=h.next
  ·have:=s.ok.next; subst e; exact ⟨this,by omega⟩
  ·rw [hm r e] at hr; have:=s.ok.maps r es hr; exact ⟨this.1,by omega⟩
 ·have:=s.ok.next; show h.base≤h.next+1; omega
 ·have:=(s.ok.new _ _ (show h.new h.next=some c from hc)).2; omega
 ·exact ⟨[],hself, .nil⟩
theorem putTs_ok{sz:Nat}{q:R} :∀{xs:List (Nat×T)} {us:List (Nat×Value)} {l:List T} {ca:Array Value} {K:List T→Option R},All2 (fun (x:Nat×T) (y:Nat×Value)=>x.1=y.1∧TR z x.2 y.2) xs us→(∀x∈xs,x.2.cells.length=sz)→Cells z sz l ca.toList→putTs l xs K=some q→
  ∃l' ca',K l'=some q∧Cells z sz l' ca'.toList∧Instr.fill (fun i=>some (i*sz,sz)) ca us=some ca'∧us.all (fun p=>oneCells p.2.cells.toList)=true∧l'.length=l.length
 | [],[],l,ca,K, .nil,_,hc,hk=>⟨l,ca,hk,hc,rfl,rfl,rfl⟩
 | (i,x)::xs,(i',u)::us,l,ca,K, .cons ⟨e,hx⟩ hs,hsz,hc,hk=>by
  simp only at e
  subst e
  unfold putTs at hk
  obtain ⟨h1,hk⟩:=needC_some hk
  have h1:=of_decide_eq_true h1
  have hxs:=hsz _ (List.mem_cons_self ..)
  simp only at hxs hx
  have hcs:=tr_cells hx
  have l1:u.cells.size=sz:=by rw [←Array.length_toList,←hcs.length]; exact hxs
  have hmul:i*sz+sz≤l.length*sz:=by
   have:=Nat.mul_le_mul_right sz (show i+1≤l.length by omega)
   rw [Nat.add_mul,Nat.one_mul] at this
   exact this
  have l2:l.length*sz≤ca.size:=by rw [←Array.length_toList]; exact hc.len
  have hb:i*sz+u.cells.size≤ca.size:=by omega
  have hput:=hc.put (off:=0) (y':=x) (vs:=u.cells.toList) (List.getElem?_eq_getElem h1) (by rw [Array.length_toList]; omega) hxs (fun j t hj=>⟨fun _=>by rw [Nat.sub_zero]; exact hcs.get hj,fun hr=>by
   have:j<x.cells.length:=by
    rcases Nat.lt_or_ge j x.cells.length with h | h
    ·exact h
    ·rw [List.getElem?_eq_none h] at hj; cases hj
   rw [Array.length_toList] at hr
   omega⟩)
  rw [Nat.add_zero,←splice_toList hb] at hput
  obtain ⟨l',ca',j1,j2,j3,j4,j5⟩:=putTs_ok hs (fun x hx=>hsz x (List.mem_cons_of_mem _ hx)) hput hk
  refine ⟨l',ca',j1,j2, ?_,by simp only [List.all_cons,srs_one hcs,j4,Bool.and_self],by rw [j5,List.length_set]⟩
  unfold Instr.fill
  simp only
  rw [if_neg (by simp only [Bool.or_eq_true,decide_eq_true_eq,ne_eq]; omega)]
  exact j3
theorem zerosOf_cells{x:T}{zv:Value}(hx:TR z x zv)(n:Nat){s:Nat}(hs:x.cells.length=s) :Cells z s (List.replicate n x) (zerosOf zv (n*s)):=by
 have hcs:=tr_cells hx
 have hzs:zv.cells.size=s:=by rw [←Array.length_toList,←hcs.length]; exact hs
 refine ⟨by simp [zerosOf],fun y hy=>by rw [List.eq_of_mem_replicate hy]; exact hs,fun i y j t hi hj=> ?_⟩
 rw [List.getElem?_replicate] at hi
 split at hi
 ·rename_i hin
  cases hi
  have hjl:j<s:=by
   rcases Nat.lt_or_ge j x.cells.length with h | h
   ·omega
   ·rw [List.getElem?_eq_none h] at hj; cases hj
  obtain ⟨v,a1,a2⟩:=hcs.get hj
  refine ⟨v, ?_,a2⟩
  have:=Nat.mul_le_mul_right s (show i+1≤n by omega)
  rw [Nat.add_mul,Nat.one_mul] at this
  unfold zerosOf
  rw [List.getElem?_map,List.getElem?_range (by omega)]
  simp only [Option.map_some]
  rw [hzs,Nat.mul_comm,Nat.mul_add_mod,Nat.mod_eq_of_lt hjl]
  have hj':zv.cells[j]? =some v:=by simpa using a1
  rw [getElem!_def,hj']
 ·cases hi
end
end Go.Proofs.Ytpfploolkmcalaa.VM
end
section
namespace Go.Proofs.Ytpfploolkmcalaa.VM
open Go AM
set_option linter.unusedSectionVars false
set_option linter.unusedSimpArgs false
set_option linter.unusedVariables false
section
variable {F F' N:NS} {G G' G2:GM} {st st':St} {h h':Hp} {R:Type} {z:Fz} (P:Program)
variable {HA:AM.Hint} {call:CallF} {callA:FuncId→List Value→Hp→Option (Value×Hp)} {e:Env} {eA:AM.Env} {o:Oper} {al:Option (List Nat)} {K:V→St→Option R} {q:R} {H:Hint}
theorem lookV_ok(s:Sm F N G st h){t:TypeId}{m key:V}{u w:Value}{ok:Bool}(hm:VR (fz F h) G m u)(hkey:VR (fz F h) G key w){K:V→Option R}(hk:lookV P t m key ok st.blks K=some q) :
  ∃v x,K v=some q∧VR (fz F h) G v x∧∀(S:Type) (KA:Value→Option S),lookC P t u w ok h KA=KA x:=by
 unfold lookV at hk
 unfold mapTypeC at hk
 split at hk
 ·rename_i kt e ht
  obtain ⟨k,hk,hkr,hkk⟩:=keyV_ok P hkey hk
  obtain ⟨p,zv,ti,hp,hk⟩:=tpC_some P hk
  unfold closedZero at hk
  split at hk
  ·rename_i zx hzx
   have hz0:=zeroV_ok (z:=fz F h) (G:=G) hp.tpz
   rw [hzx] at hz0
   have hz0:=vr_t hz0
   obtain ⟨id,es,r,es',hg,hG,hk,rfl,hes,hall⟩:=mapC_ok s hm hk
   unfold lkT at hk
   split at hk
   ·rename_i r0 hlk
    obtain ⟨h1,hft⟩:=fitT_some hk
    have key:∃y,TR (fz F h) (r0.getD zx) y∧∀(S:Type) (KA:Value→Bool→Option S),lkC es' w zv KA=KA y r0.isSome:=by
     obtain ⟨i1,i2⟩:=lookT_ok hkr hall
     cases r0 with
     | none=>exact ⟨zv,hz0,fun S KA=>by unfold lkC; rw [i2 hlk]; rfl⟩
     | some r0=>
      obtain ⟨r',a1,a2⟩:=i1 r0 hlk
      exact ⟨r',a2,fun S KA=>by unfold lkC; rw [a1]; rfl⟩
    obtain ⟨y,hy,hlkc⟩:=key
    have hl2:∀(S:Type) (KA:Value→Option S),like2C zv y KA=KA y:=by
     intro S KA
     have:=like3_ok (p:= .one (.t p)) (zo:=some zv) (v:= .t (r0.getD zx)) (G:=G) (show vpz (.one (.t p)) (some zv)=true from hp.tpz) ⟨_,rfl,hft⟩ (tr_v hy) h (fun v _=>KA v)
     have e3:like3C zv y (fun v=>KA v)=like2C zv y KA:=by
      have hpl:=hp.plain
      have htz:=hp.tpz
      cases zv <;>first | rfl | skip
      cases p <;>simp only [tpz] at htz <;>first | (cases htz; done) | (rename_i q' _; cases q' <;>cases htz)
     rw [←e3]
     exact this
    refine ⟨_,bif ok then .tuple #[y, .bool r0.isSome] else y,h1, ?_,fun S KA=> ?_⟩
    ·cases ok
     ·exact tr_v hy
     ·exact .tup (.cons (tr_v hy) (.cons (.t (.bool _)) .nil))
    ·unfold lookC mapTypeC
     simp only [ht,hkk]
     show (zeroC P e fun zv=>mapAtC h (.map (some r)) fun es=>lkC es w zv fun v p=>like2C zv v fun u=>KA (bif ok then .tuple #[u, .bool p] else u))=_
     rw [zeroC_to P hp.info hp.zero hp.plain]
     unfold mapAtC asMapC
     simp only [hes]
     rw [hlkc,hl2]
   ·cases hk
  ·cases hk
 ·cases hk
theorem mostV_ok{big:Bool}{k:IntKind} :∀{l:List V} {us:List Value} {a:Int} {K:V→Option R},VRs z G l us→mostV big k a l K=some q→∃b,K (.t (.int k b))=some q∧∀(S:Type) (KA:Value→Option S),mostFrom big k a us KA=KA (.int k b)
 | [],us,a,K,hv,hk=>by
  cases hv
  exact ⟨a,hk,fun S KA=>rfl⟩
 | v::l,us,a,K,hv,hk=>by
  cases hv with
  | cons c d=>
   unfold mostV at hk
   obtain ⟨k',n,hk2,rfl,rfl⟩:=asIntV_ok c hk
   obtain ⟨h1,hk3⟩:=needC_some hk2
   have h1:=of_decide_eq_true h1
   subst h1
   obtain ⟨b,h2,h3⟩:=mostV_ok d hk3
   exact ⟨b,h2,fun S KA=>by unfold mostFrom asIntC; simp only [decide_true,cond_true]; exact h3 S KA⟩
theorem lenS_ok(s:Sm F N G st h){v:V}{u:Value}(hv:VR (fz F h) G v u){K:Nat→Option R}(hk:lenS st.blks v K=some q) :∃n a c,K n=some q∧u= .slice a n c:=by
 have hc:∀{R:Type} {q:R} {K:Nat→Bool→List T→Option R},contC st.blks v K=some q→∃n a c sz nn l,K sz nn l=some q∧n=l.length∧u= .slice a n c:=fun {R q K} hk=>by
  obtain ⟨sz,nn,l,ad,c,cs,h1,h2,_⟩:=contC_ok s (Fz.le_refl _) hv hk
  exact ⟨_,ad,c,sz,nn,l,h1,rfl,h2⟩
 unfold lenS at hk
 split at hk
 ·split at hk
  ·obtain ⟨n,a,c,sz,nn,l,h1,rfl,h2⟩:=hc (q:=q) (K:=fun _ _ l=>K l.length) (by unfold contC; exact hk)
   exact ⟨_,a,c,h1,h2⟩
  ·cases hk
 ·rename_i id
  split at hk
  ·rename_i b hb
   split at hk
   ·obtain ⟨n,a,c,sz,nn,l,h1,rfl,h2⟩:=hc (q:=q) (K:=fun _ _ l=>K l.length) (by unfold contC; simp only [hb]; exact hk)
    exact ⟨_,a,c,h1,h2⟩
   ·obtain ⟨r,hG,_⟩:=s.blk id _ hb
    cases hv with
    | bufNil h=>rw [hG] at h; cases h
    | buf h=>rw [hG] at h; cases h; exact ⟨_,_,_,hk,rfl⟩
   ·cases hk
  ·cases hk
 ·cases hk
theorem lenV_ok(s:Sm F N G st h){ts:List TypeId}{vs:List V}{us:List Value}(hv:VRs (fz F h) G vs us){K:V→Option R}(hk:lenV P ts vs st K=some q) :
  ∃v x,K v=some q∧VR (fz F h) G v x∧∀(S:Type) (KA:Value→Option S),lenC P ts us h KA=KA x:=by
 unfold lenV at hk
 split at hk
 ·rename_i t x
  cases hv with
  | cons a b=>
   cases b
   split at hk
   ·rename_i ht
    obtain ⟨sv,hk,rfl,rfl⟩:=asStrV_ok a hk
    exact ⟨_,_,hk, .t (.int _ _),fun S KA=>by simp only [lenC,ht]; rfl⟩
   ·rename_i e ht
    obtain ⟨n,ad,c,h1,rfl⟩:=lenS_ok s a hk
    exact ⟨_,_,h1, .t (.int _ _),fun S KA=>by simp only [lenC,ht]; rfl⟩
   ·rename_i n e ht
    exact ⟨_,_,hk, .t (.int _ _),fun S KA=>by simp only [lenC,ht]⟩
   ·rename_i k e ht
    obtain ⟨id,es,r,es',hg,hG,hk,rfl,hes,hall⟩:=mapC_ok s a hk
    refine ⟨_, .int .i64 es.length,hk, .t (.int _ _),fun S KA=> ?_⟩
    simp only [lenC,ht]
    unfold asMapC
    simp only [hes]
    rw [hall.length]
   ·cases hk
 ·cases hk
theorem appV_ok(s:Sm F N G st h){id:Nat}{ts:List TypeId}{vs:List V}{us:List Value}(hv:VRs (fz F h) G vs us)(hk:appV P id ts vs st K=some q) :
  ∃v st' F' G' x h',K v st'=some q∧Step F N G st h F' G' st' h'∧VR (fz F' h') G' v x∧(∀(S:Type) (KA:Value→Hp→Option S),appendC P ts us h KA=KA x h')∧AppFr G h h' (headV vs):=by
 unfold appV at hk
 split at hk
 ·rename_i t tx sl x
  cases hv with
  | cons a b=>
   cases b with
   | cons b c=>
    cases c
    rename_i w1 w2
    obtain ⟨e,he,hk⟩:=elemC_some P hk
    obtain ⟨ti,hti,hk⟩:=sizeC_some P hk
    obtain ⟨ti2,zv,hti2,hz1,hz2,hk⟩:=zeroC_some P hk
    obtain ⟨h1,hk⟩:=needC_some hk
    have h1':=of_decide_eq_true h1
    have hpre:∀(S:Type) (K1:TypeInfo→Option S),(elemC P t fun e=>sizeC P e fun s=>zeroC P e fun z=>needC (decide (z.cells.size=s)) fun _=>match P.info? e with | some i=>K1 i | none=>none)=K1 ti:=by
     intro S K1
     rw [elemC_to P he,sizeC_to P hti,zeroC_to P hti2 hz1 hz2,h1]
     show needC true _=_
     unfold needC
     simp only [cond_true,hti]
    rw [hti] at hti2
    cases hti2
    simp only [hti] at hk
    split at hk
    ·rename_i e2 htx
     obtain ⟨l,cs,hk,hcs,hshape,hsrc⟩:=srcV_ok s (Fz.le_refl _) b hk
     rcases hshape with ⟨_,a2,c2,rfl⟩ | ⟨hbad,_⟩
     ·obtain ⟨v,st',F',G',a1,m1,c1,a',m',c',h',rfl,i2,i3,i4,i5,i6⟩:=appendV_ok s (Fz.le_refl _) a hcs.1 hcs.2 hk
      refine ⟨v,st',F',G',_,h',i2,i4,i5,fun S KA=> ?_,i6⟩
      unfold appendC
      simp only [elemC_to P he,sizeC_to P hti,zeroC_to P hti hz1 hz2,h1,needC,cond_true,hti,htx,asSliceC]
      rw [hsrc _ _ _ (Nat.le_refl _),List.take_of_length_le (by rw [hcs.2]; exact Nat.le_refl _)]
      unfold growC
      exact i3 S _
     ·cases hbad
    ·rename_i htx
     obtain ⟨l,cs,hk,hcs,hshape,hsrc⟩:=srcV_ok s (Fz.le_refl _) b hk
     rcases hshape with ⟨hbad,_⟩ | ⟨_,bb,rfl,hlen⟩
     ·cases hbad
     ·obtain ⟨v,st',F',G',a1,m1,c1,a',m',c',h',rfl,i2,i3,i4,i5,i6⟩:=appendV_ok s (Fz.le_refl _) a hcs.1 hcs.2 hk
      refine ⟨v,st',F',G',_,h',i2,i4,i5,fun S KA=> ?_,i6⟩
      unfold appendC
      simp only [elemC_to P he,sizeC_to P hti,zeroC_to P hti hz1 hz2,h1,needC,cond_true,hti,htx,asSliceC,asStrC]
      rw [←hlen,hsrc _ _ _ (Nat.le_refl _),List.take_of_length_le (by rw [hcs.2]; exact Nat.le_refl _)]
      unfold growC
      exact i3 S _
    ·cases hk
 ·cases hk
theorem copyV_ok(s:Sm F N G st h){ts:List TypeId}{vs:List V}{us:List Value}(hv:VRs (fz F h) G vs us)(hk:copyV P ts vs st K=some q) :
  ∃v st' x h',K v st'=some q∧Step F N G st h F G st' h'∧VR (fz F h') G v x∧∀(S:Type) (KA:Value→Hp→Option S),copyC P ts us h KA=KA x h':=by
 unfold copyV at hk
 split at hk
 ·rename_i t tx dst x
  cases hv with
  | cons a b=>
   cases b with
   | cons b c=>
    cases c
    obtain ⟨e,he,hk⟩:=elemC_some P hk
    obtain ⟨ti,hti,hk⟩:=sizeC_some P hk
    split at hk
    ·rename_i e2 htx
     obtain ⟨l,cs,hk,hcs,hshape,hsrc⟩:=srcV_ok s (Fz.le_refl _) b hk
     rcases hshape with ⟨_,a2,c2,rfl⟩ | ⟨hbad,_⟩
     ·cases dst with
      | buf id=>
       dsimp only at hk
       split at hk
       ·rename_i bk hg
        split at hk
        ·rename_i own sz nn d
         obtain ⟨h1,hk2⟩:=needC_some hk
         simp only [Bool.and_eq_true,beq_iff_eq] at h1
         obtain ⟨⟨rfl,rfl⟩,rfl⟩:=h1
         rcases s.arr hg a with ⟨h0,_⟩ | ⟨_,r,c0,e1,rfl,h5,h6,h7,h8,_⟩
         ·cases h0
         have hmn:Nat.min l.length d.length≤l.length:=Nat.min_le_left _ _
         have hmd:Nat.min l.length d.length≤d.length:=Nat.min_le_right _ _
         generalize hm:Nat.min l.length d.length=m at*
         have hct:=hcs.1.take m
         have hctl:(cs.take (m*ti.size)).length=m*ti.size:=by
          rw [List.length_take,hcs.2]
          exact Nat.min_eq_left (Nat.mul_le_mul_right _ hmn)
         by_cases h0:m=0
         ·subst h0
          have hst:Step F N G st h F G ⟨st.blks.set id (.arr true ti.size true (l.take 0++d.drop 0)),st.used⟩ h:=by
           refine step_upd s hg rfl e1 (by simp [kindOf]) rfl s.ok (Ext.refl _ _ _) rfl (fun _ _ _ _ _ _ _ _=>⟨rfl,rfl⟩) (fun c' hc q hq=>⟨c',hc,hq⟩) (fun L h1 _ _=>h1) ?_
           have:=(s.br hg e1).2
           simpa using this
          refine ⟨_,_, .int .i64 0,h,hk2,hst, .t (.int _ _),fun S KA=> ?_⟩
          unfold copyC
          simp only [elemC_to P he,sizeC_to P hti,asSliceC,htx,hm]
          rw [hsrc 0 _ _ (Nat.zero_le _)]
          unfold putC AM.putT
          simp
         ·have hbound:0+(cs.take (m*ti.size)).length≤c0.cells.length:=by
           rw [hctl,Nat.zero_add]
           exact Nat.le_trans (Nat.mul_le_mul_right _ hmd) h7.len
          have hst:Step F N G st h F G ⟨st.blks.set id (.arr true ti.size true (l.take m++d.drop m)),st.used⟩ (h.write r c0 0 (cs.take (m*ti.size))):=by
           refine step_write s hg rfl e1 ?_ rfl h5 _ _ fun hself hle=> ?_
           ·simp only [kindOf,List.length_append,List.length_take,List.length_drop,Gk.arr.injEq,true_and]
            omega
           ·refine .inr ⟨rfl,_,hself,h6, ?_,h8,fun h=>nomatch h⟩
            have:=(hct.append (by rw [hctl,List.length_take,Nat.min_eq_left hmn]) (h7.drop m)).mono hle
            unfold splice
            rw [hctl]
            simpa using this
          refine ⟨_,_, .int .i64 m,_,hk2,hst, .t (.int _ _),fun S KA=> ?_⟩
          unfold copyC
          simp only [elemC_to P he,sizeC_to P hti,asSliceC,htx,hm]
          rw [hsrc m _ _ hmn]
          unfold putC AM.putT
          have e0:decide (m=0)=false:=decide_eq_false h0
          simp only [e0,cond_false,hctl,decide_true,needC,cond_true]
          exact stC_to h5 (h8 rfl) hbound (hct.one (by rw [hctl,List.length_take,Nat.min_eq_left hmn])) _
        ·cases hk
       ·cases hk
      | _=>cases hk
     ·cases hbad
    ·cases hk
 ·cases hk
theorem delV_ok(s:Sm F N G st h){ts:List TypeId}{vs:List V}{us:List Value}(hv:VRs (fz F h) G vs us)(hk:delV P ts vs st K=some q) :
  ∃v st' x h',K v st'=some q∧Step F N G st h F G st' h'∧VR (fz F h') G v x∧∀(S:Type) (KA:Value→Hp→Option S),mapDropC P ts us h KA=KA x h':=by
 unfold delV at hk
 split at hk
 ·rename_i t ts m k
  cases hv with
  | cons a b=>
   cases b with
   | cons b c=>
    cases c
    unfold mapTypeC at hk
    split at hk
    ·rename_i kt e2 ht
     obtain ⟨k,hk,hkr,hkk⟩:=keyV_ok P b hk
     obtain ⟨id,es,r,es',hg,hG,hk,rfl,hes,hall⟩:=mapC_ok s a hk
     split at hk
     ·rename_i r0 hlk
      refine ⟨_,_, .tuple #[],_,hk,step_putMap s hg hG (dropT_ok hkr hall), .tup .nil,fun S KA=> ?_⟩
      unfold mapDropC mapTypeC
      simp only [ht,hkk,needC,cond_true,asMapC,hes]
      obtain ⟨i1,i2⟩:=lookT_ok hkr hall
      cases r0 with
      | none=>rw [i2 hlk]
      | some r0=>
       obtain ⟨r',a1,_⟩:=i1 r0 hlk
       rw [a1]
     ·cases hk
    ·cases hk
 ·cases hk
end
end Go.Proofs.Ytpfploolkmcalaa.VM
end
section
namespace Go.Proofs.Ytpfploolkmcalaa.VM
open Go AM
set_option linter.unusedSectionVars false
set_option linter.unusedSimpArgs false
set_option linter.unusedVariables false
section
variable {F F' N:NS} {G G' G2:GM} {st st':St} {h h':Hp} {R:Type} {z:Fz} (P:Program)
variable {HA:AM.Hint} {call:CallF} {callA:FuncId→List Value→Hp→Option (Value×Hp)} {e:Env} {eA:AM.Env} {o:Oper} {al:Option (List Nat)} {K:V→St→Option R} {q:R} {H:Hint}
theorem vrs_map{α:Type}{l:List α}{f:α→V}{g:α→Value}(h:∀x∈l,VR z G (f x) (g x)) :VRs z G (l.map f) (l.map g):=by
 induction l with
 | nil=>exact .nil
 | cons x l ih=>exact .cons (h x (List.mem_cons_self ..)) (ih fun y hy=>h y (List.mem_cons_of_mem _ hy))
theorem bound_ok{x:V}{u:Value}(hx:VR z G x u)(h0:0≤boundV (valOf x)) :boundV u=boundV (valOf x):=by
 rcases valOf_ok hx with e | e
 ·rw [e] at h0
  exact absurd h0 (by decide)
 ·rw [e]
theorem add_add(a:Addr)(i j:Nat) :(a.add i).add j=a.add (i+j):=by
 unfold Addr.add
 split <;>split <;>(try split) <;>(try subst_vars) <;>simp_all [Nat.add_assoc] <;>omega
theorem cut_ok{sz:Nat}{nn:Bool}{l:List T}{u:Value}(hr:SR (fz F h) (.list sz nn l) u){lo hi:Option Int}{K:List T→Option R}(hk:cutL l lo hi K=some q) :
  ∃l' u',K l'=some q∧SR (fz F h) (.list sz nn l') u'∧0≤lo.getD 0∧(∀x,hi=some x→0≤x)∧∀(S:Type) (KA:Value→Option S),(asSliceC u fun a n c=>cutC h a n c sz lo hi KA)=KA u':=by
 unfold cutL at hk
 obtain ⟨h1,hk⟩:=needC_some hk
 simp only [Bool.and_eq_true,decide_eq_true_eq] at h1
 obtain ⟨⟨h1,h2⟩,h3⟩:=h1
 have hhi:∀x,hi=some x→0≤x:=fun x e=>by subst e; simp only [Option.getD_some] at h2; omega
 generalize hlo':lo.getD 0=lo' at*
 generalize hhi':hi.getD l.length=hi' at*
 obtain ⟨a,rfl⟩:∃a:Nat,lo'=a:=⟨lo'.toNat,by omega⟩
 obtain ⟨b,rfl⟩:∃b:Nat,hi'=b:=⟨hi'.toNat,by omega⟩
 simp only [Int.toNat_natCast] at hk
 have hab:a≤b:=by omega
 have hbl:b≤l.length:=by omega
 have hlen:((l.take b).drop a).length=b - a:=by simp; omega
 cases hr with
 | nil=>
  have hb0:b=0:=by simpa using hbl
  subst hb0
  have ha0:a=0:=by omega
  subst ha0
  refine ⟨_, .slice none 0 0,hk,by simpa using SR.nil sz,by omega,hhi,fun S KA=> ?_⟩
  show cutC h none 0 0 sz lo hi KA=_
  unfold cutC cutT needC
  have e1:hi.getD 0=0:=by simpa using hhi'
  have e2:lo.getD 0=0:=by simpa using hlo'
  simp [e1,e2]
 | @list _ _ ad c f hs hn hc he=>
  have mk:∀(ad':Addr) (c':Nat),(fz F h).sl ad' sz (b - a) c'→(a<b→ad'=ad.add (a*sz))→SR (fz F h) (.list sz true ((l.take b).drop a)) (.slice (some ad') (b - a) c'):=by
   intro ad' c' hsl had
   rw [←hlen] at hsl ⊢
   have hmul:∀i,i<b - a→(a+i)*sz+sz≤l.length*sz:=fun i hi=>by
    have:=Nat.mul_le_mul_right sz (show a+i+1≤l.length by omega)
    rw [Nat.add_mul,Nat.one_mul] at this
    exact this
   refine .list (fun j=>f (a*sz+j)) hsl (fun x hx=>hn x (List.mem_of_mem_take (List.mem_of_mem_drop hx))) (fun j hj=> ?_) (fun i x j y hi hj=> ?_)
   ·rw [hlen] at hj
    have hab2:a<b:=by
     rcases Nat.lt_or_ge a b with h | h
     ·exact h
     ·rw [show b - a=0 by omega,Nat.zero_mul] at hj; omega
    rw [had hab2,add_add]
    refine hc _ ?_
    have:(b - a)*sz+a*sz=b*sz:=by rw [←Nat.add_mul]; congr 1; omega
    have h9:=Nat.mul_le_mul_right sz hbl
    omega
   ·rw [List.getElem?_drop,List.getElem?_take] at hi
    split at hi
    ·have:=he (a+i) x j y hi hj
     rw [show (a+i)*sz+j=a*sz+(i*sz+j) by rw [Nat.add_mul]; omega] at this
     exact this
    ·cases hi
  rcases hs with ⟨s1,s2⟩ | ⟨s1,s2,s3,bk,s4,s5⟩
  ·refine ⟨_, .slice (some (bif decide (c=a) then ad else ad.add (a*sz))) (b - a) (c - a),hk,mk _ _ (.inl ⟨?_,by omega⟩) (fun hlt=> ?_),by omega,hhi,fun S KA=> ?_⟩
   ·cases decide (c=a)
    ·simp only [cond_false]
     unfold Addr.add
     split <;>exact s1
    ·exact s1
   ·have:decide (c=a)=false:=decide_eq_false (by omega)
    rw [this]
    rfl
   ·show cutC h (some ad) l.length c sz lo hi KA=_
    unfold cutC cutT needC
    simp [s1,hlo',hhi',hab,s2,show b≤c by omega]
  ·refine ⟨_, .slice (some (ad.add (a*sz))) (b - a) 0,hk,mk _ _ (.inr ?_) (fun _=>rfl),by omega,hhi,fun S KA=> ?_⟩
   ·have hblk:(ad.add (a*sz)).block=ad.block:=by unfold Addr.add; split <;>rfl
    rw [hblk]
    exact ⟨s1,s2,by unfold Addr.add; split; exact s3; rfl,bk,s4,s5⟩
   ·show cutC h (some ad) l.length c sz lo hi KA=_
    unfold cutC cutT needC
    have hb:decide (ad.block<h.base)=false:=decide_eq_false (by omega)
    simp [hb,s4,s5,s3,hlo',hhi',hab,hbl]
theorem elem_ok{sz:Nat}{nn:Bool}{l:List T}{u:Value}(hr:SR (fz F h) (.list sz nn l) u){p:TP}{j:Int}{K:T→Option R}(hk:elemT p l j K=some q) :
  ∃x a n c ad,K x=some q∧isT p x∧u= .slice (some a) n c∧VR (fz F h) G (.pt x) (.pointer (some ad))∧∀(S:Type) (KA:Value→Option S),idxC (some a) n sz j KA=KA (.pointer (some ad)):=by
 unfold elemT at hk
 obtain ⟨h1,hk⟩:=needC_some hk
 have h1:=of_decide_eq_true h1
 obtain ⟨x,hx,hk⟩:=getT_some hk
 obtain ⟨hk,hf⟩:=fitT_some hk
 have hjl:j.toNat<l.length:=by
  rcases Nat.lt_or_ge j.toNat l.length with h | h
  ·exact h
  ·rw [List.getElem?_eq_none h] at hx; cases hx
 cases hr with
 | nil=>simp at hjl
 | @list _ _ ad c f hs hn hc he=>
  refine ⟨x,ad,l.length,c,ad.add (j.toNat*sz),hk,hf,rfl, .pt (fun i=>f (j.toNat*sz+i)) fun i y hi=> ?_,fun S KA=> ?_⟩
  ·have hxs:=hn x (List.mem_of_getElem? hx)
   have hil:i<sz:=by
    rcases Nat.lt_or_ge i x.cells.length with h | h
    ·omega
    ·rw [List.getElem?_eq_none h] at hi; cases hi
   have:=Nat.mul_le_mul_right sz (show j.toNat+1≤l.length by omega)
   rw [Nat.add_mul,Nat.one_mul] at this
   refine ⟨?_,he _ x i y hx hi⟩
   rw [add_add]
   exact hc _ (by omega)
  ·unfold idxC needC
   have:j<(l.length:Int):=by omega
   simp [h1,this]
theorem mostsV_ok{big:Bool}{vs:List V}{us:List Value}(hv:VRs z G vs us){K:V→Option R}(hk:mostsV big vs K=some q) :∃v x,K v=some q∧VR z G v x∧∀(S:Type) (KA:Value→Option S),mostC big us KA=KA x:=by
 unfold mostsV at hk
 split at hk
 ·cases hk
 ·cases hv with
  | cons a b=>
   obtain ⟨k,n,hk,_,rfl⟩:=asIntV_ok a hk
   obtain ⟨m,h1,h2⟩:=mostV_ok b hk
   exact ⟨_,_,h1, .t (.int _ _),fun S KA=>by unfold mostC; exact h2 S KA⟩
theorem zip_all2{f:Operand→Value} :∀{l:List (Nat×Operand)} {xs:List T},All2 (TR z) xs (l.map fun p=>f p.2)→All2 (fun (x:Nat×T) (y:Nat×Value)=>x.1=y.1∧TR z x.2 y.2) ((l.map (·.1)).zip xs) (l.map fun p=>(p.1,f p.2))
 | [],_,h=>by cases h; exact .nil
 | x::l,_,h=>by
  cases h with
  | cons a b=>exact .cons ⟨rfl,a⟩ (zip_all2 b)
theorem stC_at{h h':Hp}{ad:Addr}{vs:List Value}(hk:∀(R:Type) (KA:Hp→Option R),h.stC ad vs KA=KA h') :∃b,h.new ad.block=some b∧h'=h.write ad.block b ad.off vs:=by
 have:=hk Hp some
 unfold Hp.stC at this
 split at this
 ·rename_i b hb
  obtain ⟨_,h2⟩:=needC_some this
  exact ⟨b,hb,(Option.some.inj h2).symm⟩
 ·cases this
theorem store_al{al:Option (List Nat)}{id i off:Nat}{ad:Addr}{vs:List Value}(s:Sm F N G st h)(hx:VR (fz F h) G (.ptr id i off) (.pointer (some ad)))(hal:storeOk al st.blks id=true)(hk:∀(R:Type) (KA:Hp→Option R),h.stC ad vs KA=KA h') :AlOk al G h h':=by
 obtain ⟨b,hb,rfl⟩:=stC_at hk
 cases al with
 | none=>exact trivial
 | some l=>
  cases l with
  | nil=>cases hal
  | cons q0 l=>
   refine ⟨fun h=>(nomatch h),fun q hq r' k' hG' hrk=> ?_⟩
   unfold storeOk at hal
   simp only [Bool.and_eq_true] at hal
   obtain ⟨hw,hall⟩:=hal
   have h1:=List.all_eq_true.1 hall q hq
   simp only [Bool.and_eq_true,Bool.not_eq_true',beq_eq_false_iff_ne] at h1
   obtain ⟨hne,hwq⟩:=h1
   unfold owB at hw hwq
   split at hw
   ·rename_i b0 hb0
    split at hwq
    ·rename_i b1 hb1
     have go:∀r k,G id=some ⟨r,k⟩→realK k=true→ad.block=r→(h.write ad.block b ad.off vs).new r'=h.new r':=by
      intro r k hG hrk0 e
      obtain ⟨r2,hG2,_⟩:=s.blk q b1 hb1
      rw [hG'] at hG2
      cases hG2
      obtain ⟨r3,hG3,_⟩:=s.blk id b0 hb0
      rw [hG] at hG3
      cases hG3
      have hwq:=ow_wr hwq hrk
      have hw:=ow_wr hw hrk0
      have h2:r' ≠r:=fun e2=>hne (s.inj q b1 id b0 r _ _ hb1 hb0 (wr_real hwq) (wr_real hw) (e2▸hG') hG)
      obtain ⟨_,_,h3⟩:=s.apart id b0 r _ hb0 hw hG
      rw [e] at hb ⊢
      have h4:¬b.par.contains r'=true:=fun hc=>by
       have hm:r'∈b.par:=by simpa using hc
       exact (h3 b hb r' hm).2.2.2 q b1 _ hb1 (wr_real hwq) hG'
      unfold Hp.write
      have h5:(r'==r)=false:=by simpa using h2
      have h6:b.par.contains r'=false:=by simpa using h4
      simp only [h5,h6,cond_false]
     cases hx with
     | ptrA hG=>exact go _ _ hG rfl rfl
     | ptrV hG=>exact go _ _ hG rfl rfl
     | ptrW hG=>exact go _ _ hG rfl rfl
    ·cases hwq
   ·cases hw
theorem app_al{al:Option (List Nat)}{sl:V}(s:Sm F N G st h)(hal:appOk al st.blks sl=true)(hf:AppFr G h h' sl) :AlOk al G h h':=by
 cases al with
 | none=>exact trivial
 | some l=>
  cases l with
  | nil=>cases hal
  | cons q0 l=>
   refine ⟨fun h=>(nomatch h),fun q hq r' k' hG' hrk=> ?_⟩
   have hlt:owB st.blks q=true→r'<h.next:=by
    intro hwq
    unfold owB at hwq
    split at hwq
    ·rename_i b1 hb1
     obtain ⟨r2,hG2,_⟩:=s.blk q b1 hb1
     rw [hG'] at hG2
     cases hG2
     exact (s.lt hb1 (wr_real (ow_wr hwq hrk)) hG').2
    ·cases hwq
   unfold appOk at hal
   dsimp only at hal
   ·cases sl with
    | t x=>exact hf r' (hlt (List.all_eq_true.1 hal q hq)) (fun id r k e=>by cases e)
    | buf id=>
     dsimp only at hal
     unfold storeOk at hal
     simp only [Bool.and_eq_true] at hal
     obtain ⟨hw,hall⟩:=hal
     have h1:=List.all_eq_true.1 hall q hq
     simp only [Bool.and_eq_true,Bool.not_eq_true',beq_eq_false_iff_ne] at h1
     obtain ⟨hne,hwq⟩:=h1
     refine hf r' (hlt hwq) fun id2 r k e hG hrk0=> ?_
     cases e
     unfold owB at hw hwq
     split at hw
     ·rename_i b0 hb0
      split at hwq
      ·rename_i b1 hb1
       obtain ⟨r2,hG2,_⟩:=s.blk q b1 hb1
       rw [hG'] at hG2
       cases hG2
       obtain ⟨r3,hG3,_⟩:=s.blk id b0 hb0
       rw [hG] at hG3
       cases hG3
       have hwq:=ow_wr hwq hrk
       have hw:=ow_wr hw hrk0
       refine ⟨fun e2=>hne (s.inj q b1 id b0 r _ _ hb1 hb0 (wr_real hwq) (wr_real hw) (e2▸hG') hG),fun b hb hm=> ?_⟩
       obtain ⟨_,_,h3⟩:=s.apart id b0 r _ hb0 hw hG
       exact (h3 b hb r' hm).2.2.2 q b1 _ hb1 (wr_real hwq) hG'
      ·cases hwq
     ·cases hw
    | _=>cases hal
theorem opV_ok(heq:HA.eqt=H.eqt)(hc:CallOKV call callA)(s:Sm F N G st h)(he:EnvR (fz F h) G e eA){f w rid idx:Nat}(ho:o.op.operands.toList.all operandOk=true)(hk:opV P H call f w rid idx al (evV e) o st K=some q) :
  OpOK P HA callA F N G st h e eA o al K q:=by
 have hv:∀x,x∈o.op.operands.toList→VR (fz F h) G (evV e x) (eA.eval x):=fun x hx=>evV_ok he (List.all_eq_true.1 ho x hx)
 have hvT:∀x,x∈o.op.operands.toList→∀t,VR (fz F h) G (evT P t (evV e) x) (eA.eval x):=fun x hx t=>evT_ok P he (List.all_eq_true.1 ho x hx) t
 generalize hkey:(match o.dst with | some d=>d | none=>900+idx)=key at*
 cases hop:o.op with
 | move x=>
  simp only [opV,hop] at hk
  exact .quiet P s hk (hvT x (by simp [hop,Op.operands]) _) (fun S KA=>by simp only [opC,hop]) (by simp [wildB,hop])
 | assign x=>
  simp only [opV,hop] at hk
  exact .quiet P s hk (hvT x (by simp [hop,Op.operands]) _) (fun S KA=>by simp only [opC,hop]) (by simp [wildB,hop])
 | pick c a b=>
  simp only [opV,hop] at hk
  obtain ⟨bb,hk,hx,hu⟩:=asBoolV_ok (hv c (by simp [hop,Op.operands])) hk
  cases bb with
  | true=>exact .quiet P s hk (hvT a (by simp [hop,Op.operands]) _) (fun S KA=>by simp only [opC,hop,hu]; rfl) (by simp [wildB,hop])
  | false=>exact .quiet P s hk (hvT b (by simp [hop,Op.operands]) _) (fun S KA=>by simp only [opC,hop,hu]; rfl) (by simp [wildB,hop])
 | alloc t=>
  simp only [opV,hop] at hk
  obtain ⟨p,zv,ti,hp,hk⟩:=tpC_some P hk
  have hz0:=zeroV_cells (z:=fz F h) (G:=G) hp.tpz
  have hopc:∀(S:Type) (KA:Value→Hp→Option S),opC P HA callA eA.eval o h KA=KA (.pointer (some ⟨h.next,0,none⟩)) (h.alloc zv.cells.toList 0 []):=fun S KA=>by
   simp only [opC,hop]
   rw [zeroC_to P hp.info hp.zero hp.plain]
  split at hk
  ·rename_i n el x hu hx
   obtain ⟨i1,i2,hk⟩:=mint_some hk
   have hz1:=zeroV_ok (z:=fz F h) (G:=G) hp.tpz
   rw [hx] at hz1
   have hcs:=tr_cells (vr_t hz1)
   exact .acts P hk (step_av s i1 i2 hcs 0) (.ptrW (setG_self _ _ _)) hopc (by simp [wildB,hop]) (by simp [quietB,cls,hop])
  ·obtain ⟨i1,i2,hk⟩:=mint_some hk
   exact .acts P hk (step_var s i1 i2 hz0.1 0) (.ptrV (setG_self _ _ _)) hopc (by simp [wildB,hop]) (by simp [quietB,cls,hop])
 | box t x=>
  simp only [opV,hop] at hk
  obtain ⟨h1,hk⟩:=needC_some hk
  have hv0:=hvT x (by simp [hop,Op.operands]) t
  obtain ⟨hcs,hone⟩:=okV_cells hv0 h1
  split at hk
  ·rename_i n el y hu hx
   obtain ⟨i1,i2,hk⟩:=mint_some hk
   rw [hx] at hv0
   exact .acts P hk (step_av s i1 i2 (tr_cells (vr_t hv0)) 0) (.ptrW (setG_self _ _ _)) (fun S KA=>by simp only [opC,hop,hone]; rfl) (by simp [wildB,hop]) (by simp [quietB,cls,hop])
  obtain ⟨i1,i2,hk⟩:=mint_some hk
  exact .acts P hk (step_var s i1 i2 hcs 0) (.ptrV (setG_self _ _ _)) (fun S KA=>by simp only [opC,hop,hone]; rfl) (by simp [wildB,hop]) (by simp [quietB,cls,hop])
 | build t ps=>
  simp only [opV,hop] at hk
  obtain ⟨v,u,h1,h2,h3,h4⟩:=buildV_ok P (us:=ps.toList.map fun p=>(p.1,eA.eval p.2)) (by
   have:∀x∈ps.toList,VR (fz F h) G (evT P (partTypes P t x.1) (evV e) x.2) (eA.eval x.2):=fun x hx=>hvT x.2 (by simp only [hop,Op.operands,List.mem_map]; exact ⟨x,hx,rfl⟩) _
   revert this
   generalize ps.toList=l
   intro hl
   induction l with
   | nil=>exact .nil
   | cons x l ih=>exact .cons ⟨rfl,hl x (List.mem_cons_self ..)⟩ (ih fun y hy=>hl y (List.mem_cons_of_mem _ hy))) hk
  refine .quiet P s h1 h2 (fun S KA=> ?_) (by simp [wildB,hop])
  have:(ps.toList.all fun p=>oneCells (eA.eval p.2).cells.toList)=true:=by
   rw [List.all_map] at h3
   exact h3
  simp only [opC,hop,this,needC,cond_true]
  exact h4 S _
 | buildSlice t n ps=>
  simp only [opV,hop] at hk
  obtain ⟨el,hel,hk⟩:=elemC_some P hk
  obtain ⟨ti,hti,hk⟩:=sizeC_some P hk
  obtain ⟨h1,hk⟩:=needC_some hk
  obtain ⟨p,zv,ti2,hp,hk⟩:=tpC_some P hk
  have e2:=hp.info
  rw [hti] at e2
  cases e2
  unfold closedZero at hk
  split at hk
  ·rename_i x0 hx0
   obtain ⟨h2,hk⟩:=needC_some hk
   have h2':=of_decide_eq_true h2
   have hz1:=zeroV_ok (z:=fz F h) (G:=G) hp.tpz
   rw [hx0] at hz1
   have hz1:=vr_t hz1
   have hvs:VRs (fz F h) G (ps.toList.map fun p=>evT P el (evV e) p.2) (ps.toList.map fun p=>eA.eval p.2):=
    vrs_map fun x hx=>hvT x.2 (by simp only [hop,Op.operands,List.mem_map]; exact ⟨x,hx,rfl⟩) _
   obtain ⟨xs,st1,F1,hk,x1,hxs⟩:=closeFs_ok s (Fz.le_refl _) hvs hk
   obtain ⟨h3,hk⟩:=needC_some hk
   rw [List.all_eq_true] at h3
   have hzc:=zerosOf_cells (hz1.mono x1.le) n h2'
   have hz2:All2 (fun (x:Nat×T) (y:Nat×Value)=>x.1=y.1∧TR (fz F1 h) x.2 y.2) ((ps.toList.map (·.1)).zip xs) (ps.toList.map fun p=>(p.1,eA.eval p.2)):=zip_all2 hxs
   obtain ⟨l',ca',j1,j2,j3,j4,j5⟩:=putTs_ok (sz:=ti.size) (ca:=(zerosOf zv (n*ti.size)).toArray) hz2 (fun x hx=>by
    have:=h3 x.2 (List.of_mem_zip hx).2
    exact of_decide_eq_true this) (by simpa using hzc) hk
   obtain ⟨i1,i2,j1⟩:=mint_some j1
   refine .acts P j1 (x1.trans (step_arr x1.sm i1 i2 ti.size j2)) (.buf (setG_self _ _ _)) (fun S KA=> ?_) (by simp [wildB,hop]) (by simp [quietB,cls,hop])
   have hall:(ps.toList.all fun p=>oneCells (eA.eval p.2).cells.toList)=true:=by
    rw [List.all_map] at j4
    exact j4
   have hlen:l'.length=n:=by rw [j5,List.length_replicate]
   simp only [opC,hop,elemC_to P hel,sizeC_to P hti,h1,hall,zeroC_to P hti hp.zero hp.plain,hp.size,decide_true,Bool.and_self,needC,cond_true]
   rw [j3,hlen]
  ·cases hk
 | load t x=>
  simp only [opV,hop] at hk
  obtain ⟨p,zv,ti,hp,hk⟩:=tpC_some P hk
  have hx:=hv x (by simp [hop,Op.operands])
  split at hk
  ·rename_i y hy
   rw [hy] at hx
   obtain ⟨hk1,hf⟩:=fitT_some hk
   revert hx
   generalize hu:eA.eval x=u
   intro hx
   cases hx with
   | @pt _ a f hpt=>
    have hcell:∀j c,y.cells[j]? =some c→h.cell (a.add j)=some (f j)∧SR (fz F h) c (f j):=fun j c hj=>⟨(hpt j c hj).1.2,(hpt j c hj).2⟩
    have hopc:∀(S:Type) (KA:Value→Hp→Option S),opC P HA callA eA.eval o h KA=loadC P h t a fun u=>KA u h:=fun S KA=>by simp only [opC,hop,hu]; rfl
    cases p with
    | one p1=>
     have hf:fits1 p1 y=true:=hf
     obtain ⟨c1,c2⟩:=hcell 0 y (by rw [fits_scal hf]; rfl)
     have:a.add 0=a:=by unfold Addr.add; simp
     rw [this] at c1
     exact .quiet P s hk1 (.t c2) (fun S KA=>by rw [hopc]; exact loadC_one P hp c1 (fun R y K hy=>like1_T hy hf c2 K) _) (by simp [wildB,hop])
    | agg ps=>
     obtain ⟨cs,rfl,hall⟩:=hf
     have hus:SRs (fz F h) cs ((List.range cs.length).map f):=All2.of_get (by simp) fun i c v hi hvv=>by
      rw [List.getElem?_map] at hvv
      obtain ⟨k,hk1,hk2⟩:=Option.map_eq_some_iff.1 hvv
      have:i<cs.length:=by
       rcases Nat.lt_or_ge i cs.length with h | h
       ·exact h
       ·rw [List.getElem?_eq_none h] at hi; cases hi
      rw [List.getElem?_range this] at hk1
      cases hk1
      subst hk2
      exact (hcell i c hi).2
     refine .quiet P s hk1 (.tagg (vs:=((List.range cs.length).map f).toArray) (by simpa using hus)) (fun S KA=> ?_) (by simp [wildB,hop])
     rw [hopc]
     refine loadC_agg P hp (by rw [hall.length]; simp) (fun j u1 q1 hj hq=> ?_) _
     obtain ⟨c,hc1,hc2⟩:=hall.get hq
     obtain ⟨d1,d2⟩:=hcell j c hc1
     obtain ⟨v',e1,e2⟩:=hus.get hc1
     rw [hj] at e1
     cases e1
     have:u1=f j:=by
      rw [List.getElem?_map] at hj
      obtain ⟨k,hk1,hk2⟩:=Option.map_eq_some_iff.1 hj
      have:j<cs.length:=by
       rcases Nat.lt_or_ge j cs.length with h | h
       ·exact h
       ·rw [List.getElem?_eq_none h] at hc1; cases hc1
      rw [List.getElem?_range this] at hk1
      cases hk1
      exact hk2.symm
     rw [this]
     exact ⟨d1,fun R y K hy=>like1_T hy hc2 d2 K⟩
  ·rename_i id i off hy
   rw [hy] at hx
   split at hk
   ·rename_i b hg
    obtain ⟨v,w1,ad,h1,h2,h3,h4⟩:=ldB_ok P s hg (Fz.le_refl _) hx hp hk
    exact .quiet P s h2 h3 (fun S KA=>by simp only [opC,hop,h1,asPtrC]; exact h4 S _) (by simp [wildB,hop])
   ·cases hk
  ·cases hk
 | store t x v=>
  simp only [opV,hop] at hk
  have hx:=hv x (by simp [hop,Op.operands])
  have hy:=hvT v (by simp [hop,Op.operands]) t
  split at hk
  ·rename_i id i off hxe
   rw [hxe] at hx
   obtain ⟨hal,hk⟩:=needC_some hk
   obtain ⟨ti,hti,hk⟩:=sizeC_some P hk
   obtain ⟨st',ad,h',F',a1,a2,a3,a4,a5⟩:=stB_ok s (Fz.le_refl _) hx hy hk
   refine ⟨_,st',F',G,undef,h',a2,a5, .tup .nil,fun S KA=> ?_,fun _=>store_al s (a1▸hx) hal a4,fun hb=>by simp [quietB,cls,hop] at hb⟩
   simp only [opC,hop,a1]
   show (sizeC P t fun s=>needC (decide ((eA.eval v).cells.size=s)) fun _=>h.stC ad (eA.eval v).cells.toList fun h'=>KA undef h')=_
   rw [sizeC_to P hti,a3]
   simp only [decide_true,needC,cond_true]
   exact a4 S _
  ·cases hk
 | nilCheck x=>
  simp only [opV,hop] at hk
  have hx:=hv x (by simp [hop,Op.operands])
  revert hx hk
  generalize evV e x=xv
  generalize hu:eA.eval x=u
  intro hk hx
  split at hk
  ·cases hx <;>exact .quiet P s hk (by first | exact .ptrA (by assumption) | exact .ptrV (by assumption) | exact .ptrW (by assumption)) (fun S KA=>by simp only [opC,hop,hu]) (by simp [wildB,hop])
  ·cases hx with
   | pt f hf=>exact .quiet P s hk (.pt f hf) (fun S KA=>by simp only [opC,hop,hu]) (by simp [wildB,hop])
  ·cases hx with
   | fn _ a b=>exact .quiet P s hk (.fn _ a b) (fun S KA=>by simp only [opC,hop,hu]) (by simp [wildB,hop])
  ·cases hk
 | binOp op t x y yt=>
  simp only [opV,hop] at hk
  obtain ⟨v,u,h1,h2,h3⟩:=binV_ok s (hv x (by simp [hop,Op.operands])) (hv y (by simp [hop,Op.operands])) hk
  exact .quiet P s h1 h2 (fun S KA=>by simp only [opC,hop,heq]; exact h3 S _) (by simp [wildB,hop])
 | unOp op t x=>
  simp only [opV,hop] at hk
  obtain ⟨v,u,h1,h2,h3⟩:=unV_ok (hv x (by simp [hop,Op.operands])) hk
  exact .quiet P s h1 h2 (fun S KA=>by simp only [opC,hop]; exact h3 S _) (by simp [wildB,hop])
 | convert sr d x=>
  simp only [opV,hop] at hk
  obtain ⟨v,u,h1,h2,h3⟩:=convV_ok P s (hv x (by simp [hop,Op.operands])) hk
  exact .quiet P s h1 h2 (fun S KA=>by simp only [opC,hop]; exact h3 S _) (by simp [wildB,hop])
 | makeFunc fn first captured=>
  simp only [opV,hop] at hk
  split at hk
  ·rename_i g
   refine .quiet P s hk (.fn g (fa:=first.map eA.eval) (ca:=captured.map eA.eval) ?_ ?_) (fun S KA=>by simp only [opC,hop]) (by simp [wildB,hop])
   ·rw [Array.toList_map]
    exact vrs_map fun x hx=>hv x (by simp only [hop,Op.operands,Array.toList_append,List.mem_append]; exact .inl hx)
   ·rw [Array.toList_map]
    exact vrs_map fun x hx=>hv x (by simp only [hop,Op.operands,Array.toList_append,List.mem_append]; exact .inr hx)
  ·cases hk
 | makeMap t r=>
  cases r with
  | some r=>simp only [opV,hop] at hk; cases hk
  | none=>
   simp only [opV,hop] at hk
   unfold mapTypeC at hk
   split at hk
   ·rename_i kt el ht
    obtain ⟨i1,i2,hk⟩:=mint_some hk
    exact .acts P hk (step_map s i1 i2) (.map (setG_self _ _ _)) (fun S KA=>by simp only [opC,hop,mapTypeC,ht]) (by simp [wildB,hop]) (by simp [quietB,cls,hop])
   ·cases hk
 | makeSlice t l c=>
  simp only [opV,hop] at hk
  obtain ⟨el,hel,hk⟩:=elemC_some P hk
  split at hk
  ·rename_i ti hti
   obtain ⟨p,zv,ti2,hp,hk⟩:=tpC_some P hk
   have e2:=hp.info
   rw [hti] at e2
   cases e2
   unfold closedZero at hk
   split at hk
   ·rename_i x0 hx0
    have hz1:=zeroV_ok (z:=fz F h) (G:=G) hp.tpz
    rw [hx0] at hz1
    have hz1:=vr_t hz1
    obtain ⟨k1,n,hk,hl1,hl2⟩:=asIntV_ok (hv l (by simp [hop,Op.operands])) hk
    obtain ⟨k2,m,hk,hc1,hc2⟩:=asIntV_ok (hv c (by simp [hop,Op.operands])) hk
    obtain ⟨h1,hk⟩:=needC_some hk
    obtain ⟨h2,hk⟩:=needC_some hk
    have h2:=of_decide_eq_true h2
    obtain ⟨i1,i2,hk⟩:=mint_some hk
    have hzc:=zerosOf_cells hz1 n.toNat h2
    have hst:=step_arr s i1 i2 ti.size hzc
    refine .acts P hk hst (.buf (r:=h.next) (sz:=ti.size) (n:=n.toNat) (by rw [setG_self]; simp)) (fun S KA=> ?_) (by simp [wildB,hop]) (by simp [quietB,cls,hop])
    simp only [opC,hop,elemC_to P hel,hti,zeroC_to P hti hp.zero hp.plain,hl2,hc2,h1,hp.size,decide_true,Bool.and_true,needC,cond_true]
   ·cases hk
  ·cases hk
 | slice t x lo hi mx=>
  cases mx with
  | some m=>simp only [opV,hop] at hk; cases hk
  | none=>
   simp only [opV,hop] at hk
   have hx:=hv x (by simp [hop,Op.operands])
   have hlo:∀y,lo=some y→VR (fz F h) G (evV e y) (eA.eval y):=fun y e2=>hv y (by simp [hop,Op.operands,e2])
   have hhi:∀y,hi=some y→VR (fz F h) G (evV e y) (eA.eval y):=fun y e2=>hv y (by simp [hop,Op.operands,e2])
   have elo:0≤(lo.map fun v=>boundV (valOf (evV e v))).getD 0→(lo.map fun v=>boundV (eA.eval v))=(lo.map fun v=>boundV (valOf (evV e v))):=by
    intro h0
    cases lo with
    | none=>rfl
    | some y=>simp only [Option.map_some,Option.getD_some] at h0 ⊢; rw [bound_ok (hlo y rfl) h0]
   have ehi:(∀y,hi=some y→0≤boundV (valOf (evV e y)))→(hi.map fun v=>boundV (eA.eval v))=(hi.map fun v=>boundV (valOf (evV e v))):=by
    intro h0
    cases hi with
    | none=>rfl
    | some y=>simp only [Option.map_some]; rw [bound_ok (hhi y rfl) (h0 y rfl)]
   split at hk
   ·rename_i ht
    obtain ⟨sv,hk,hx1,hx2⟩:=asStrV_ok hx hk
    obtain ⟨h1,hk⟩:=needC_some hk
    have h1':=h1
    simp only [Bool.and_eq_true,decide_eq_true_eq] at h1'
    have e3:=elo h1'.1.1
    have e4:=ehi fun y e2=>by
     have:=h1'.1.2
     rw [e2] at this
     simp only [Option.map_some,Option.getD_some] at this
     omega
    refine .quiet P s hk (.t (.str _)) (fun S KA=> ?_) (by simp [wildB,hop])
    simp only [opC,hop,ht,hx2,asStrC,e3,e4,h1]
    rfl
   ·rename_i el ht
    obtain ⟨ti,hti,hk⟩:=sizeC_some P hk
    have main:∀{F':NS} {st1:St} {y:T},Step F N G st h F' G st1 h→TR (fz F' h) y (eA.eval x)→(match y with
      | .list sz nn l=>needC (sz==ti.size) fun _=>cutL l (lo.map fun v=>boundV (valOf (evV e v))) (hi.map fun v=>boundV (valOf (evV e v))) fun l=>K (.t (.list sz nn l)) st1
      | _=>none)=some q→∃v u,K v st1=some q∧VR (fz F' h) G v u∧∀(S:Type) (KA:Value→Hp→Option S),opC P HA callA eA.eval o h KA=KA u h:=by
     intro F' st1 y x1 hy hk
     split at hk
     ·rename_i sz nn l
      obtain ⟨h1,hk⟩:=needC_some hk
      have h1:sz=ti.size:=by simpa using h1
      subst h1
      cases hy with
      | one hr=>
       obtain ⟨l',u',j1,j2,j3,j4,j5⟩:=cut_ok hr hk
       refine ⟨_,u',j1, .t j2,fun S KA=> ?_⟩
       simp only [opC,hop,ht,sizeC_to P hti]
       rw [elo j3,ehi fun y e2=>j4 _ (by rw [e2]; rfl)]
       exact j5 S _
     ·cases hk
    unfold sliceB at hk
    cases hcut:H.cut f w rid idx with
    | true=>
     rw [hcut] at hk
     simp only [cond_true] at hk
     unfold cutB at hk
     split at hk
     ·rename_i id hxe
      split at hk
      ·rename_i bk hg
       split at hk
       ·rename_i own sz nn l
        obtain ⟨h1,hk2⟩:=needC_some hk
        simp only [Bool.and_eq_true,beq_iff_eq,decide_eq_true_eq] at h1
        obtain ⟨⟨⟨⟨⟨rfl,rfl⟩,h3⟩,h4⟩,h5⟩,h6⟩:=h1
        subst h3
        obtain ⟨i1,i2,hk3⟩:=mint_some hk2
        rw [hxe] at hx
        have hnq:quietB (evV e) o=false:=by
         unfold quietB readOnly
         simp only [hop,hxe,Bool.and_false]
        rcases s.arr hg hx with ⟨h0,_⟩ | ⟨_,r,c,e1,e2,a1,a2,a3,a4,_⟩
        ·cases h0
        ·have hst:=step_cut (n:=((hi.map fun v=>boundV (valOf (evV e v))).getD l.length).toNat) s hg e1 i1 i2
         have hlen:(l.take ((hi.map fun v=>boundV (valOf (evV e v))).getD l.length).toNat).length=((hi.map fun v=>boundV (valOf (evV e v))).getD l.length).toNat:=by
          rw [List.length_take]; omega
         refine .acts P hk3 hst (.buf (setG_self _ _ _)) (fun S KA=> ?_) (by simp [wildB,hop]) hnq
         have e3:=elo (by rw [h4]; exact Int.le_refl _)
         have e4:=ehi fun y e5=>by
          have:=h5
          rw [e5] at this
          simp only [Option.map_some,Option.getD_some] at this
          exact this
         have hlt:=(s.ok.new _ _ a1).1
         simp only [opC,hop,ht,sizeC_to P hti,e2,asSliceC,e3,e4]
         unfold cutC cutT
         have d1:decide (r<h.base)=false:=decide_eq_false (by omega)
         simp only [d1,cond_false,a1]
         unfold needC
         rw [h4]
         rw [hlen,decide_eq_true h5,decide_eq_true h6,decide_eq_true a2]
         have e9:(⟨r,0,none⟩:Addr).add (Int.toNat 0*ti.size)=⟨r,0,none⟩:=by
          have e10:Int.toNat 0*ti.size=0:=by simp
          rw [e10]; rfl
         rw [e9]
         rfl
       ·cases hk
      ·cases hk
     ·cases hk
    | false=>
    rw [hcut] at hk
    simp only [cond_false] at hk
    by_cases hb:readOnly o (evV e)=true
    ·-- nothing is frozen
     have hbufs:(evV e x).bufs=[]:=by
      simp only [readOnly,hop] at hb
      cases hxe:evV e x <;>rw [hxe] at hb <;>first | rfl | cases hb
     unfold closeF at hk
     obtain ⟨y,h1,h2⟩:=close_ok hk
     rw [hbufs] at h1
     have hy:=h2 s (fun id hid=>by rw [hbufs] at hid; cases hid) (Fz.le_refl _) hx
     obtain ⟨v,u,j1,j2,j3⟩:=main (Step.refl s) hy h1
     exact .quiet P s j1 j2 j3 (by simp [wildB,hop])
    ·obtain ⟨y,st1,F1,h1,x1,h2⟩:=closeF_ok s (Fz.le_refl _) hx hk
     obtain ⟨v,u,j1,j2,j3⟩:=main x1 h2 h1
     exact .acts P j1 x1 j2 j3 (by simp [wildB,hop]) (by simp [quietB,hb])
   ·cases hk
 | fieldAddr t x fi=>
  simp only [opV,hop] at hk
  obtain ⟨fd,hk,hfd⟩:=fieldC_some P hk
  obtain ⟨ti,hti,hk⟩:=sizeC_some P hk
  obtain ⟨h1,hk⟩:=needC_some hk
  have hx:=hv x (by simp [hop,Op.operands])
  have hopc:∀a,eA.eval x= .pointer (some a)→∀(S:Type) (KA:Value→Hp→Option S),opC P HA callA eA.eval o h KA=KA (.pointer (some (a.add fd.offset))) h:=fun a ha S KA=>by
   simp only [opC,hop,hfd,sizeC_to P hti,h1,needC,cond_true,ha,asPtrC]
  revert hx hk hopc
  generalize evV e x=xv
  generalize hu:eA.eval x=u
  intro hk hx hopc
  split at hk
  ·cases hx with
   | ptrA hG=>exact .quiet P s hk (VR.ptrA hG) (fun S KA=>by rw [hopc _ rfl,add_none,Nat.add_assoc]) (by simp [wildB,hop])
   | ptrV hG=>exact .quiet P s hk (.ptrV hG) (fun S KA=>by rw [hopc _ rfl,add_none]) (by simp [wildB,hop])
   | ptrW hG=>exact .quiet P s hk (.ptrW hG) (fun S KA=>by rw [hopc _ rfl,add_none]) (by simp [wildB,hop])
  ·obtain ⟨p,zv,ti2,hp,hk⟩:=tpC_some P hk
   obtain ⟨y,j1,_,_,j4,_⟩:=subX_ok P hp hk
   cases hx with
   | @pt _ a f hf=>exact .quiet P s j1 (pt_sub (.pt (G:=G) f hf) j4) (fun S KA=>hopc a rfl S KA) (by simp [wildB,hop])
  ·cases hk
 | field t x fi=>
  simp only [opV,hop] at hk
  obtain ⟨fd,hk,hfd⟩:=fieldC_some P hk
  obtain ⟨p,zv,ti,hp,hk⟩:=tpC_some P hk
  obtain ⟨v,u,cs,h1,h2,h3,h4⟩:=subV_ok P hp (hv x (by simp [hop,Op.operands])) hk
  exact .quiet P s h1 h2 (fun S KA=>by simp only [opC,hop,hfd,h3,asAggC]; exact h4 S _) (by simp [wildB,hop])
 | indexAddr t x i=>
  simp only [opV,hop] at hk
  have hx:=hv x (by simp [hop,Op.operands])
  have hi:=hv i (by simp [hop,Op.operands])
  split at hk
  ·rename_i el ht
   obtain ⟨ti,hti,hk⟩:=sizeC_some P hk
   obtain ⟨k1,j,hk,_,hi2⟩:=asIntV_ok hi hk
   have hopc:∀a n c,eA.eval x= .slice a n c→∀(S:Type) (KA:Value→Hp→Option S),opC P HA callA eA.eval o h KA=idxC a n ti.size j fun v=>KA v h:=fun a n c ha S KA=>by
    simp only [opC,hop,ht,sizeC_to P hti,ha,asSliceC,hi2]
   revert hx hk hopc
   generalize evV e x=xv
   generalize hu:eA.eval x=u
   intro hx hk hopc
   split at hk
   ·split at hk
    ·rename_i sz nn l
     obtain ⟨h1,hk1⟩:=needC_some hk
     have h1:sz=ti.size:=by simpa using h1
     subst h1
     obtain ⟨p,zv,ti2,hp,hk2⟩:=tpC_some P hk1
     cases vr_t hx with
     | one hr=>
      obtain ⟨y,a,n,c,ad,i1,i2,i3,i4,i5⟩:=elem_ok (G:=G) hr hk2
      exact .quiet P s i1 i4 (fun S KA=>by rw [hopc _ _ _ i3]; exact i5 S _) (by simp [wildB,hop])
    ·cases hk
   ·rename_i id
    split at hk
    ·rename_i b hg
     split at hk
     ·rename_i own sz nn l
      obtain ⟨h1,hk1⟩:=needC_some hk
      simp only [Bool.and_eq_true,beq_iff_eq,decide_eq_true_eq] at h1
      obtain ⟨⟨rfl,h2⟩,h3⟩:=h1
      rcases s.arr hg hx with ⟨_,rfl,_⟩ | ⟨rfl,r,c,hG,rfl,_⟩
      ·simp at h3; omega
      ·refine .quiet P s hk1 (.ptrA hG) (fun S KA=> ?_) (by simp [wildB,hop])
       rw [hopc _ _ _ rfl]
       unfold idxC needC
       simp only [decide_eq_true h2,decide_eq_true h3,Bool.and_self,cond_true,add_none,Nat.zero_add,Nat.add_zero]
     ·rename_i sz l
      obtain ⟨h1,hk1⟩:=needC_some hk
      simp only [Bool.and_eq_true,beq_iff_eq,decide_eq_true_eq] at h1
      obtain ⟨⟨h0,h2⟩,h3⟩:=h1
      obtain ⟨r,hG,_⟩:=s.blk id _ hg
      cases hx with
      | bufNil h=>rw [hG] at h; cases h
      | buf h=>
       rw [hG] at h
       cases h
       refine .quiet P s hk1 (.ptrA hG) (fun S KA=> ?_) (by simp [wildB,hop])
       rw [hopc _ _ _ rfl,←h0]
       unfold idxC needC
       simp only [decide_eq_true h2,decide_eq_true h3,Bool.and_self,cond_true,add_none,Nat.zero_add,Nat.add_zero]
     ·cases hk
    ·cases hk
   ·cases hk
  ·rename_i n el ht
   obtain ⟨ti,hti,hk⟩:=sizeC_some P hk
   obtain ⟨k1,j,hk,_,hi2⟩:=asIntV_ok hi hk
   obtain ⟨h1,hk⟩:=needC_some hk
   have hopc:∀a,eA.eval x= .pointer (some a)→∀(S:Type) (KA:Value→Hp→Option S),opC P HA callA eA.eval o h KA=KA (.pointer (some (a.add (j.toNat*ti.size)))) h:=fun a ha S KA=>by
    simp only [opC,hop,ht,sizeC_to P hti,ha,asPtrC,hi2,idxC,h1,needC,cond_true]
   revert hx hk hopc
   generalize evV e x=xv
   generalize hu:eA.eval x=u
   intro hx hk hopc
   split at hk
   ·cases hx with
    | ptrA hG=>exact .quiet P s hk (VR.ptrA hG) (fun S KA=>by rw [hopc _ rfl,add_none,Nat.add_assoc]) (by simp [wildB,hop])
    | ptrV hG=>exact .quiet P s hk (.ptrV hG) (fun S KA=>by rw [hopc _ rfl,add_none]) (by simp [wildB,hop])
    | ptrW hG=>exact .quiet P s hk (.ptrW hG) (fun S KA=>by rw [hopc _ rfl,add_none]) (by simp [wildB,hop])
   ·obtain ⟨p,zv,ti2,hp,hk⟩:=tpC_some P hk
    obtain ⟨y,j1,_,_,j4,_⟩:=subX_ok P hp hk
    cases hx with
    | @pt _ a f hf=>exact .quiet P s j1 (pt_sub (.pt (G:=G) f hf) j4) (fun S KA=>hopc a rfl S KA) (by simp [wildB,hop])
   ·cases hk
  ·cases hk
 | index t x i=>
  simp only [opV,hop] at hk
  have hx:=hv x (by simp [hop,Op.operands])
  have hi:=hv i (by simp [hop,Op.operands])
  split at hk
  ·rename_i ht
   obtain ⟨sv,hk,_,hx2⟩:=asStrV_ok hx hk
   obtain ⟨k1,j,hk,_,hi2⟩:=asIntV_ok hi hk
   obtain ⟨h1,hk⟩:=needC_some hk
   exact .quiet P s hk (.t (.int _ _)) (fun S KA=>by simp only [opC,hop,ht,hx2,asStrC,hi2,h1]; rfl) (by simp [wildB,hop])
  ·rename_i n el ht
   obtain ⟨ti,hti,hk⟩:=sizeC_some P hk
   obtain ⟨k1,j,hk,_,hi2⟩:=asIntV_ok hi hk
   obtain ⟨h1,hk⟩:=needC_some hk
   obtain ⟨p,zv,ti2,hp,hk⟩:=tpC_some P hk
   obtain ⟨v,u,cs,h2,h3,h4,h5⟩:=subV_ok P hp hx hk
   exact .quiet P s h2 h3 (fun S KA=>by simp only [opC,hop,ht,sizeC_to P hti,h4,asAggC,hi2,h1,needC,cond_true]; exact h5 S _) (by simp [wildB,hop])
  ·cases hk
 | lookup t x i ok=>
  simp only [opV,hop] at hk
  obtain ⟨v,u,h1,h2,h3⟩:=lookV_ok P s (hv x (by simp [hop,Op.operands])) (hv i (by simp [hop,Op.operands])) hk
  exact .quiet P s h1 h2 (fun S KA=>by simp only [opC,hop]; exact h3 S _) (by simp [wildB,hop])
 | mapUpdate t m k v=>
  simp only [opV,hop] at hk
  unfold mapTypeC at hk
  split at hk
  ·rename_i kt el ht
   obtain ⟨kx,hk,hkr,hkk⟩:=keyV_ok P (hv k (by simp [hop,Op.operands])) hk
   obtain ⟨x,st1,F1,hk,x1,hx⟩:=closeF_ok s (Fz.le_refl _) (hvT v (by simp [hop,Op.operands]) el) hk
   have hm:=(hv m (by simp [hop,Op.operands])).mono x1.le (LeG.refl _)
   obtain ⟨id,es,r,es',hg,hG,hk,hu,hes,hall⟩:=mapC_ok x1.sm hm hk
   obtain ⟨p,zv,ti,hp,hk⟩:=tpC_some P hk
   obtain ⟨hk,hf⟩:=fitT_some hk
   split at hk
   ·rename_i r0 hlk
    refine .acts P hk (x1.trans (step_putMap x1.sm hg hG (putT_ok hkr hx hall))) (u:=undef) (.tup .nil) (fun S KA=> ?_) (by simp [wildB,hop]) (by simp [quietB,cls,hop])
    simp only [opC,hop,mapPutC,mapTypeC,ht,hkk,needC,cond_true,hu,asMapC,hes]
    obtain ⟨i1,i2⟩:=lookT_ok hkr hall
    cases r0 with
    | none=>rw [i2 hlk]
    | some r0=>
     obtain ⟨r',a1,_⟩:=i1 r0 hlk
     rw [a1]
   ·cases hk
  ·cases hk
 | insert t m k v=>
  simp only [opV,hop] at hk
  unfold mapTypeC at hk
  split at hk
  ·rename_i kt el ht
   obtain ⟨kx,hk,hkr,hkk⟩:=keyV_ok P (hv k (by simp [hop,Op.operands])) hk
   obtain ⟨x,st1,F1,hk,x1,hx⟩:=closeF_ok s (Fz.le_refl _) (hvT v (by simp [hop,Op.operands]) el) hk
   have hm:=(hv m (by simp [hop,Op.operands])).mono x1.le (LeG.refl _)
   obtain ⟨id,es,r,es',hg,hG,hk,hu,hes,hall⟩:=mapC_ok x1.sm hm hk
   obtain ⟨p,zv,ti,hp,hk⟩:=tpC_some P hk
   obtain ⟨hk,hf⟩:=fitT_some hk
   split at hk
   ·rename_i r0 hlk
    refine .acts P hk (x1.trans (step_putMap x1.sm hg hG (putT_ok hkr hx hall))) (u:=undef) (.tup .nil) (fun S KA=> ?_) (by simp [wildB,hop]) (by simp [quietB,cls,hop])
    simp only [opC,hop,mapPutC,mapTypeC,ht,hkk,needC,cond_true,hu,asMapC,hes]
    obtain ⟨i1,i2⟩:=lookT_ok hkr hall
    cases r0 with
    | none=>rw [i2 hlk]
    | some r0=>
     obtain ⟨r',a1,_⟩:=i1 r0 hlk
     rw [a1]
   ·cases hk
  ·cases hk
 | extract x i=>
  simp only [opV,hop] at hk
  have hx:=hv x (by simp [hop,Op.operands])
  revert hx hk
  generalize evV e x=xv
  generalize hu:eA.eval x=u
  intro hk hx
  split at hk
  ·obtain ⟨v,h1,h2⟩:=getV_some hk
   cases hx with
   | tup hvs=>
    obtain ⟨w1,a1,a2⟩:=hvs.all.get h1
    exact .quiet P s h2 a2 (fun S KA=>by simp only [opC,hop,hu,a1]) (by simp [wildB,hop])
  ·cases hk
 | call c=>
  obtain ⟨cal,args,ts⟩:=c
  have hzip:∀(l:List Operand) (ts:List TypeId),(∀x∈l,x∈o.op.operands.toList)→l.length≤ts.length→VRs (fz F h) G ((l.zip ts).map fun x=>evT P x.2 (evV e) x.1) (l.map eA.eval):=by
   intro l
   induction l with
   | nil=>intro ts _ _; exact .nil
   | cons x l ih=>
    intro ts hl hlen
    cases ts with
    | nil=>simp at hlen
    | cons t ts=>exact .cons (hvT x (hl x (List.mem_cons_self ..)) t) (ih ts (fun y hy=>hl y (List.mem_cons_of_mem _ hy)) (by simpa using hlen))
  cases cal with
  | invoke r m=>simp only [opV,hop] at hk; cases hk
  | builtin b=>
   have hargs:VRs (fz F h) G (args.toList.map (evV e)) (args.toList.map eA.eval):=vrs_map fun x hx=>hv x (by simpa [hop,Op.operands,Call.operands] using hx)
   cases b <;>simp only [opV,hop] at hk <;>first | (cases hk; done) | skip
   ·-- append
    obtain ⟨hlen,hk⟩:=needC_some hk
    simp only [Bool.and_eq_true] at hlen
    obtain ⟨hal,hlen⟩:=hlen
    have hlen:=Nat.le_of_ble_eq_true hlen
    obtain ⟨v,st',F',G',x,h',i1,i2,i3,i4,i5⟩:=appV_ok P s (hzip args.toList ts.toList (fun x hx=>by simpa [hop,Op.operands,Call.operands] using hx) hlen) hk
    exact ⟨v,st',F',G',x,h',i1,i2,i3,fun S KA=>by simp only [opC,hop]; exact i4 S _,fun _=>app_al s hal i5,fun h0=>(by simp [quietB,cls,hop] at h0)⟩
   ·-- copy
    obtain ⟨v,st',x,h',i1,i2,i3,i4⟩:=copyV_ok P s hargs hk
    exact .acts P i1 i2 i3 (fun S KA=>by simp only [opC,hop]; exact i4 S _) (by simp [wildB,hop]) (by simp [quietB,cls,hop])
   ·-- delete
    obtain ⟨v,st',x,h',i1,i2,i3,i4⟩:=delV_ok P s hargs hk
    exact .acts P i1 i2 i3 (fun S KA=>by simp only [opC,hop]; exact i4 S _) (by simp [wildB,hop]) (by simp [quietB,cls,hop])
   ·-- len
    obtain ⟨v,x,i1,i2,i3⟩:=lenV_ok P s hargs hk
    exact .quiet P s i1 i2 (fun S KA=>by simp only [opC,hop]; exact i3 S _) (by simp [wildB,hop])
   all_goals
    obtain ⟨v,x,i1,i2,i3⟩:=mostsV_ok hargs hk
    exact .quiet P s i1 i2 (fun S KA=>by simp only [opC,hop]; exact i3 S _) (by simp [wildB,hop])
  | value fv=>
   simp only [opV,hop] at hk
   obtain ⟨hlen,hk⟩:=needC_some hk
   have hlen:=Nat.le_of_ble_eq_true hlen
   have hargs:=hzip args.toList ts.toList (fun x hx=>by simp [hop,Op.operands,Call.operands]; exact .inr (by simpa using hx)) hlen
   have hfv:=hv fv (by simp [hop,Op.operands,Call.operands])
   unfold callV at hk
   split at hk
   ·rename_i g first caps hfe
    rw [hfe] at hfv
    revert hfv
    generalize hu:eA.eval fv=u
    intro hfv
    cases hfv with
    | @fn _ _ _ fa ca hf hcp=>
     have hall:VRs (fz F h) G (first++((args.toList.zip ts.toList).map fun x=>evT P x.2 (evV e) x.1)++caps) (fa.toList++args.toList.map eA.eval++ca.toList):=
      VRs.of ((hf.all.append hargs.all).append hcp.all)
     obtain ⟨v,st',F',G',u,h',ti,i1,i2,i3,i4,i5,i6⟩:=callH_ok P hc s hall hk
     refine ⟨v,st',F',G',u,h',i1,i2,i3,fun S KA=> ?_,fun _=>i6,fun hb=>by simp [quietB,cls,hop] at hb⟩
     simp only [opC,hop,hu,callC,i4]
     exact i5 S KA
   ·cases hk
 | _=>simp only [opV,hop] at hk; cases hk
end
end Go.Proofs.Ytpfploolkmcalaa.VM
end
section
namespace Go.Proofs.Ytpfploolkmcalaa.VM
open Go AM
set_option linter.unusedSectionVars false
set_option linter.unusedSimpArgs false
set_option linter.unusedVariables false
section
variable {F F' N N' N0:NS} {G G':GM} {st st':St} {h h':Hp} {R:Type} {z:Fz} (P:Program)
def HidB(F N:NS)(G:GM)(st:St)(p:Nat) :Prop:=¬F p∧¬N p∧∀id b k,st.blks.get id=some b→real b=true→G id ≠some ⟨p,k⟩
structure RBlk (F N N0:NS) (G:GM) (st:St) (h:Hp) (sz q:Nat) (d:AM.Blk):Prop where
 new:h.new q=some d
 sz:d.sz=sz
 rw:d.rw=true
 inN:N q
 no0:¬N0 q
 noF:¬F q
 par:∀p∈d.par,p<q∧HidB F N G st p
def RowR(F N N0:NS)(G:GM)(st:St)(h:Hp)(sz:Nat)(x:RowV)(v:Value) :Prop:=
 match x with
 | .own nn t=>(nn=false∧t=[]∧v= .slice none 0 0)∨(nn=true∧∃q d,v= .slice (some ⟨q,0,none⟩) t.length 0∧RBlk F N N0 G st h sz q d∧Cells (fz F h) sz t d.cells)
 | .tree x=>SR (fz F h) x v
 | .gone=>okCell v=true
def rowAddr(l:List RowV)(cs:List Value)(i q:Nat) :Prop:=∃t n,l[i]? =some (.own true t)∧cs[i]? =some (.slice (some ⟨q,0,none⟩) n 0)
structure RowsR (F N N0:NS) (G:GM) (st:St) (h:Hp) (sz:Nat) (l:List RowV) (r:Nat) (c:AM.Blk):Prop where
 blk:RBlk F N N0 G st h 1 r c
 at_:∀(i:Nat) (x:RowV),l[i]? =some x→∃v,c.cells[i]? =some v∧RowR F N N0 G st h sz x v
 apart:∀(i q:Nat),rowAddr l c.cells i q→q ≠r∧∀j:Nat,rowAddr l c.cells j q→j=i
structure RowsOk (N0 F N:NS) (G:GM) (st:St) (h:Hp):Prop where
 sub:∀r,N0 r→N r
 blk:∀id sz l,st.blks.get id=some (.rows sz l)→∃r c,G id=some ⟨r, .arr 1 true l.length⟩∧RowsR F N N0 G st h sz l r c
 one:RU st
def ROwn(G:GM)(st:St)(h:Hp)(q:Nat) :Prop:=∃id sz l r k c,st.blks.get id=some (.rows sz l)∧G id=some ⟨r,k⟩∧h.new r=some c∧(q=r∨∃i,rowAddr l c.cells i q)
def NOwn(G:GM)(st:St)(q:Nat) :Prop:=∃id b k,st.blks.get id=some b∧real b=true∧G id=some ⟨q,k⟩
def Own(G:GM)(st:St)(h:Hp)(q:Nat) :Prop:=NOwn G st q∨ROwn G st h q
structure RLw (L:Nat) (G:GM) (st:St) (h:Hp):Prop where
 lw:Lw L G st h
 own:∀q,ROwn G st h q→L≤q∧∀d,h.new q=some d→∀p∈d.par,L≤p
structure RStep (N0 F N:NS) (G:GM) (st:St) (h:Hp) (F' N':NS) (G':GM) (st':St) (h':Hp):Prop where
 sm:Sm F' N' G' st' h'
 rk:RowsOk N0 F' N' G' st' h'
 f:Sub F F'
 g:LeG G G'
 ext:Ext F N0 h h'
 lw:∀L,RLw L G st h→RLw L G' st' h'
 ori:∀q,Own G' st' h' q→h.next≤q∨Own G st h q
 ids:∀id b,st'.blks.get id=some b→id<500→∃b0,st.blks.get id=some b0
 fo:∀q,F' q→F q∨h.next≤q∨Own G st h q
structure REvo (N0 F N:NS) (G:GM) (st:St) (h:Hp) (F' N':NS) (G':GM) (st':St) (h':Hp):Prop where
 sm:Sm F' N' G' st' h'
 rk:RowsOk N0 F' N' G' st' h'
 f:Sub F F'
 ext:Ext F N0 h h'
 lw:∀L,RLw L G st h→RLw L G' st' h'
 ori:∀q,Own G' st' h' q→h.next≤q∨Own G st h q
 ids:∀id b,st'.blks.get id=some b→id<8→∃b0,st.blks.get id=some b0∧G' id=G id
 fo:∀q,F' q→F q∨h.next≤q∨Own G st h q
theorem RStep.trans{F1 N1 F2 N2:NS}{G1 G2:GM}{s1 s2:St}{h1 h2:Hp}(x:RStep N0 F N G st h F1 N1 G1 s1 h1)(y:RStep N0 F1 N1 G1 s1 h1 F2 N2 G2 s2 h2) :RStep N0 F N G st h F2 N2 G2 s2 h2:=
 ⟨y.sm,y.rk,fun r hr=>y.f r (x.f r hr),x.g.trans y.g,x.ext.trans x.f y.ext,fun L hL=>y.lw L (x.lw L hL),fun q hq=>by
  rcases y.ori q hq with h | h
  ·exact .inl (Nat.le_trans x.ext.next h)
  ·exact x.ori q h,fun id b a1 a2=>by
  obtain ⟨b0,hb⟩:=y.ids id b a1 a2
  exact x.ids id b0 hb a2,fun q hq=>by
  rcases y.fo q hq with h | h | h
  ·exact x.fo q h
  ·exact .inr (.inl (Nat.le_trans x.ext.next h))
  ·exact .inr (x.ori q h)⟩
theorem REvo.trans{F1 N1 F2 N2:NS}{G1 G2:GM}{s1 s2:St}{h1 h2:Hp}(x:REvo N0 F N G st h F1 N1 G1 s1 h1)(y:REvo N0 F1 N1 G1 s1 h1 F2 N2 G2 s2 h2) :REvo N0 F N G st h F2 N2 G2 s2 h2:=
 ⟨y.sm,y.rk,fun r hr=>y.f r (x.f r hr),x.ext.trans x.f y.ext,fun L hL=>y.lw L (x.lw L hL),fun q hq=>by
  rcases y.ori q hq with h | h
  ·exact .inl (Nat.le_trans x.ext.next h)
  ·exact x.ori q h,fun id b a1 a2=>by
  obtain ⟨b0,hb,e1⟩:=y.ids id b a1 a2
  obtain ⟨b1,hb1,e2⟩:=x.ids id b0 hb a2
  exact ⟨b1,hb1,e1.trans e2⟩,fun q hq=>by
  rcases y.fo q hq with h | h | h
  ·exact x.fo q h
  ·exact .inr (.inl (Nat.le_trans x.ext.next h))
  ·exact .inr (x.ori q h)⟩
theorem RStep.evo(s:Sm F N G st h)(x:RStep N0 F N G st h F' N' G' st' h') :REvo N0 F N G st h F' N' G' st' h':=
 ⟨x.sm,x.rk,x.f,x.ext,x.lw,x.ori,fun id b h1 h2=>by
  obtain ⟨b0,hb⟩:=x.ids id b h1 (by omega)
  obtain ⟨r,hr,_⟩:=s.blk id b0 hb
  exact ⟨b0,hb,by rw [hr]; exact x.g _ _ hr⟩,x.fo⟩
theorem RStep.le(x:RStep N0 F N G st h F' N' G' st' h') :Fz.le (fz F h) (fz F' h'):=x.ext.fz x.f
theorem RStep.refl(s:Sm F N G st h)(rk:RowsOk N0 F N G st h) :RStep N0 F N G st h F N G st h:=
 ⟨s,rk,fun _ h=>h,LeG.refl _,Ext.refl _ _ _,fun _ h=>h,fun _ h=> .inr h,fun id b h1 _=>⟨b,h1⟩,fun _ h=> .inl h⟩
theorem Sm.unnamed(s:Sm F N G st h){q:Nat}(hN:N q)(hF:¬F q) :∀id b k,st.blks.get id=some b→real b=true→G id ≠some ⟨q,k⟩:=by
 intro id b k h1 h2 h3
 cases hw:wr b with
 | true=>exact (s.apart id b q k h1 hw h3).2.1 hN
 | false=>
  cases b with
  | arr own sz nn l=>
   have hnn:nn=true:=h2
   subst hnn
   have how:own=false:=by simpa [wr] using hw
   subst how
   rcases (s.br h1 h3).2 with ⟨h,_⟩ | ⟨_,c,_,_,_,_,h⟩
   ·cases h
   ·exact hF (h rfl)
  | rows sz l=>cases h2
  | _=>cases hw
theorem rows_keep(s:Sm F N G st h)(rk:RowsOk N0 F N G st h)(x:Ext F N h h')(hs:Sub F F')(hr:∀id b,st'.blks.get id=some b→isRows b=true→∃id0 g,st.blks.get id0=some b∧G id0=some g∧G' id=some g)(hu:RU st')
  (fo:∀r,F' r→F r∨h.next≤r∨NOwn G st r) (ori:∀r,NOwn G' st' r→h.next≤r∨NOwn G st r):
  RowsOk N0 F' N G' st' h'∧∀q,ROwn G' st' h' q→ROwn G st h q∧h'.new q=h.new q:=by
 have hz:Fz.le (fz F h) (fz F' h'):=x.fz hs
 have hnf:∀q,q<h.next→¬F q→¬NOwn G st q→¬F' q:=by
  intro q h1 h2 h3 h4
  rcases fo q h4 with h | h | h
  ·exact h2 h
  ·omega
  ·exact h3 h
 have hhid:∀p,p<h.next→HidB F N G st p→HidB F' N G' st' p:=by
  rintro p hp ⟨h1,h2,h3⟩
  have hno:¬NOwn G st p:=fun ⟨id,b,k,e1,e2,e3⟩=>h3 id b k e1 e2 e3
  refine ⟨hnf p hp h1 hno,h2,fun id b k e1 e2 e3=> ?_⟩
  rcases ori p ⟨id,b,k,e1,e2,e3⟩ with h | h
  ·omega
  ·exact hno h
 have hblk:∀sz q d,RBlk F N N0 G st h sz q d→RBlk F' N N0 G' st' h' sz q d:=by
  intro sz q d hb
  have hlt:=(s.ok.new _ _ hb.new).2
  refine ⟨(x.keep q (.inr hb.inN)).1.trans hb.new,hb.sz,hb.rw,hb.inN,hb.no0,hnf q hlt hb.noF fun ⟨id,b,k,e1,e2,e3⟩=>s.unnamed hb.inN hb.noF id b k e1 e2 e3,fun p hp=> ?_⟩
  obtain ⟨h1,h2⟩:=hb.par p hp
  exact ⟨h1,hhid p (by omega) h2⟩
 have hrow:∀sz y v,RowR F N N0 G st h sz y v→RowR F' N N0 G' st' h' sz y v:=by
  intro sz y v hy
  cases y with
  | own nn t=>
   rcases hy with hy | ⟨h1,q,d,h2,h3,h4⟩
   ·exact .inl hy
   ·exact .inr ⟨h1,q,d,h2,hblk _ _ _ h3,h4.mono hz⟩
  | tree y=>exact SR.mono hz hy
  | gone=>exact hy
 refine ⟨⟨rk.sub,fun id sz l hid=> ?_,hu⟩, ?_⟩
 ·obtain ⟨id0,g,h1,h2,h3⟩:=hr id _ hid rfl
  obtain ⟨r,c,h4,h5⟩:=rk.blk id0 sz l h1
  rw [h2] at h4
  cases h4
  exact ⟨r,c,h3,hblk _ _ _ h5.blk,fun i y hy=>let ⟨v,a,b⟩:=h5.at_ i y hy; ⟨v,a,hrow _ _ _ b⟩,h5.apart⟩
 ·rintro q ⟨id,sz,l,r,k,c',hid,hG,hc',hq⟩
  obtain ⟨id0,g,h1,h2,h3⟩:=hr id _ hid rfl
  obtain ⟨r0,c,h4,h5⟩:=rk.blk id0 sz l h1
  rw [hG] at h3
  cases h3
  rw [h2] at h4
  cases h4
  have e:=(x.keep r (.inr h5.blk.inN)).1
  rw [e,h5.blk.new] at hc'
  cases hc'
  refine ⟨⟨id0,sz,l,_,_,_,h1,h2,h5.blk.new,hq⟩, ?_⟩
  rcases hq with rfl | ⟨i,t,n,a1,a2⟩
  ·exact e
  ·obtain ⟨v,b1,b2⟩:=h5.at_ i _ a1
   rw [a2] at b1
   cases b1
   rcases b2 with ⟨h,_⟩ | ⟨_,q',d,h6,h7,_⟩
   ·cases h
   ·cases h6
    exact (x.keep q (.inr h7.inN)).1
theorem Ext.weak{N1:NS}(x:Ext F N h h')(hs:∀r,N1 r→N r) :Ext F N1 h h':=⟨x.base,x.old,x.next,fun r hr=>x.keep r (hr.imp id (hs r)),x.low⟩
theorem Step.toR(s:Sm F N G st h)(rk:RowsOk N0 F N G st h)(x:Step F N G st h F' G' st' h') :RStep N0 F N G st h F' N G' st' h':=by
 have hori:∀r,NOwn G' st' r→h.next≤r∨NOwn G st r:=fun r ⟨id,b,k,h1,h2,h3⟩=>x.ori id b r k h1 h2 h3
 obtain ⟨k1,k2⟩:=rows_keep s rk x.ext x.f (st':=st') (G':=G') (fun id b h1 h2=>by
  have h3:=x.rows id b h1 h2
  obtain ⟨r,hr,_⟩:=s.blk id b h3
  exact ⟨id,_,h3,hr,x.g _ _ hr⟩) (fun id1 b1 id2 b2 g1 g2 r1 r2=>rk.one _ _ _ _ (x.rows _ _ g1 r1) (x.rows _ _ g2 r2) r1 r2) x.fo hori
 refine ⟨x.sm,k1,x.f,x.g,x.ext.weak rk.sub,fun L hL=>⟨x.lw L hL.lw,fun q hq=> ?_⟩,fun q hq=> ?_,x.ids,fun q hq=> ?_⟩
 ·obtain ⟨h1,h2⟩:=k2 q hq
  obtain ⟨h3,h4⟩:=hL.own q h1
  exact ⟨h3,fun d hd=>h4 d (by rw [←h2]; exact hd)⟩
 ·rcases hq with hq | hq
  ·exact (hori q hq).imp (fun h=>h) .inl
  ·exact .inr (.inr (k2 q hq).1)
 ·rcases x.fo q hq with h | h | h
  ·exact .inl h
  ·exact .inr (.inl h)
  ·exact .inr (.inr (.inl h))
theorem Evo.toR(s:Sm F N G st h)(rk:RowsOk N0 F N G st h)(x:Evo F N G st h F' G' st' h') :REvo N0 F N G st h F' N G' st' h':=by
 have hori:∀r,NOwn G' st' r→h.next≤r∨NOwn G st r:=fun r ⟨id,b,k,h1,h2,h3⟩=>x.ori id b r k h1 h2 h3
 obtain ⟨k1,k2⟩:=rows_keep s rk x.ext x.f (st':=st') (G':=G') x.rows (x.ru rk.one) x.fo hori
 refine ⟨x.sm,k1,x.f,x.ext.weak rk.sub,fun L hL=>⟨x.lw L hL.lw,fun q hq=> ?_⟩,fun q hq=> ?_,x.ids,fun q hq=> ?_⟩
 ·obtain ⟨h1,h2⟩:=k2 q hq
  obtain ⟨h3,h4⟩:=hL.own q h1
  exact ⟨h3,fun d hd=>h4 d (by rw [←h2]; exact hd)⟩
 ·rcases hq with hq | hq
  ·exact (hori q hq).imp (fun h=>h) .inl
  ·exact .inr (.inr (k2 q hq).1)
 ·rcases x.fo q hq with h | h | h
  ·exact .inl h
  ·exact .inr (.inl h)
  ·exact .inr (.inr (.inl h))
end
end Go.Proofs.Ytpfploolkmcalaa.VM
end
section
namespace Go.Proofs.Ytpfploolkmcalaa.VM
open Go AM
set_option linter.unusedSectionVars false
set_option linter.unusedSimpArgs false
set_option linter.unusedVariables false
section
variable {F F' N N' N0:NS} {G G':GM} {st st':St} {h h':Hp} {R:Type} {z:Fz} (P:Program)
theorem RBlk.to{sz q:Nat}{d:AM.Blk}(hb:RBlk F N N0 G st h sz q d)(hn:h'.new q=some d)(hN:N' q)(hF:¬F' q)(hh:∀p,p<q→HidB F N G st p→HidB F' N' G' st' p) :RBlk F' N' N0 G' st' h' sz q d:=
 ⟨hn,hb.sz,hb.rw,hN,hb.no0,hF,fun p hp=>let ⟨a,b⟩:=hb.par p hp; ⟨a,hh p a b⟩⟩
theorem RowR.to{sz:Nat}{x:RowV}{v:Value}(hx:RowR F N N0 G st h sz x v)(hz:Fz.le (fz F h) (fz F' h'))(hb:∀q d n,v= .slice (some ⟨q,0,none⟩) n 0→(∃t,x= .own true t)→RBlk F N N0 G st h sz q d→RBlk F' N' N0 G' st' h' sz q d) :RowR F' N' N0 G' st' h' sz x v:=by
 cases x with
 | own nn t=>
  rcases hx with hx | ⟨h1,q,d,h2,h3,h4⟩
  ·exact .inl hx
  ·exact .inr ⟨h1,q,d,h2,hb q d _ h2 ⟨t,by rw [h1]⟩ h3,h4.mono hz⟩
 | tree y=>exact SR.mono hz hx
 | gone=>exact hx
theorem RowR.ok{sz:Nat}{x:RowV}{v:Value}(hx:RowR F N N0 G st h sz x v) :okCell v=true:=by
 cases x with
 | own nn t=>rcases hx with ⟨_,_,rfl⟩ | ⟨_,q,d,rfl,_⟩ <;>rfl
 | tree y=>exact sr_okCell hx
 | gone=>exact hx
theorem rows_get{bs:Bs}{id:Nat}{b b':Blk}(hg:bs.get id=some b){q:Nat}{c:Blk}(hq:(bs.set id b').get q=some c) :(q=id∧c=b')∨(q ≠id∧bs.get q=some c):=by
 rw [get_set] at hq
 split at hq
 ·rename_i e
  rw [hg] at hq
  cases hq
  exact .inl ⟨e,rfl⟩
 ·rename_i e; exact .inr ⟨e,hq⟩
theorem rows_set_real{bs:Bs}{id sz sz':Nat}{l l':List RowV}(hg:bs.get id=some (.rows sz l)){q:Nat}{c:Blk}(hq:(bs.set id (.rows sz' l')).get q=some c)(hr:real c=true) :q ≠id∧bs.get q=some c:=by
 rcases rows_get hg hq with ⟨_,rfl⟩ | h
 ·cases hr
 ·exact h
theorem real_set{bs:Bs}{id sz sz':Nat}{l l':List RowV}(hg:bs.get id=some (.rows sz l)){q:Nat}{c:Blk}(hq:bs.get q=some c)(hr:real c=true) :(bs.set id (.rows sz' l')).get q=some c:=by
 rw [get_set,if_neg (fun e=> ?_)]
 ·exact hq
 ·subst e
  rw [hg] at hq
  cases hq
  cases hr
theorem Sm.setRows(s:Sm F N G st h){id sz sz':Nat}{l l':List RowV}(hg:st.blks.get id=some (.rows sz l))(hl:l'.length=l.length) :Sm F N G ⟨st.blks.set id (.rows sz' l'),st.used⟩ h:=by
 refine ⟨s.ok,s.fLt,fun q b hq=> ?_,fun id1 b1 id2 b2 r k1 k2 g1 g2 r1 r2 e1 e2=> ?_,fun q b r k hq hw hG=> ?_,s.gUsed⟩
 ·rcases rows_get hg hq with ⟨rfl,rfl⟩ | ⟨_,hq⟩
  ·obtain ⟨r,h1,h2⟩:=s.blk q _ hg
   exact ⟨r,by rw [h1]; simp only [kindOf,hl],trivial⟩
  ·exact s.blk q b hq
 ·exact s.inj _ _ _ _ _ _ _ (rows_set_real hg g1 r1).2 (rows_set_real hg g2 r2).2 r1 r2 e1 e2
 ·obtain ⟨p1,p2,p3⟩:=s.apart q b r k (rows_set_real hg hq (wr_real hw)).2 hw hG
  refine ⟨p1,p2,fun c hc p hp=> ?_⟩
  obtain ⟨i1,i2,i3,i4⟩:=p3 c hc p hp
  exact ⟨i1,i2,i3,fun id2 b2 k2 g2 r2=>i4 id2 b2 k2 (rows_set_real hg g2 r2).2 r2⟩
theorem hid_set{id sz sz':Nat}{l l':List RowV}(hg:st.blks.get id=some (.rows sz l)){us:List Nat}{p:Nat}(hp:HidB F N G st p) :HidB F N G ⟨st.blks.set id (.rows sz' l'),us⟩ p:=
 ⟨hp.1,hp.2.1,fun id2 b2 k2 g2 r2=>hp.2.2 id2 b2 k2 (rows_set_real hg g2 r2).2 r2⟩
theorem rows_only(rk:RowsOk N0 F N G st h){id sz:Nat}{l:List RowV}(hg:st.blks.get id=some (.rows sz l)){q sz2:Nat}{l2:List RowV}(hq:st.blks.get q=some (.rows sz2 l2)) :q=id:=rk.one _ _ _ _ hq hg rfl rfl
theorem ru_set(rk:RowsOk N0 F N G st h){id sz sz':Nat}{l l':List RowV}(hg:st.blks.get id=some (.rows sz l))(us:List Nat) :RU ⟨st.blks.set id (.rows sz' l'),us⟩:=by
 have key:∀q b,(st.blks.set id (.rows sz' l')).get q=some b→isRows b=true→q=id:=by
  intro q b hq hr
  rcases rows_get hg hq with ⟨e,_⟩ | ⟨_,hq⟩
  ·exact e
  ·exact rk.one _ _ _ _ hq hg hr rfl
 intro id1 b1 id2 b2 g1 g2 r1 r2
 exact (key _ _ g1 r1).trans (key _ _ g2 r2).symm
theorem gone_addr{l:List RowV}{cs:List Value}{i j q:Nat}(h:rowAddr (l.set i .gone) cs j q) :j ≠i∧rowAddr l cs j q:=by
 obtain ⟨t,n,h1,h2⟩:=h
 rw [List.getElem?_set] at h1
 split at h1
 ·split at h1 <;>cases h1
 ·rename_i e
  exact ⟨fun h=>e h.symm,t,n,h1,h2⟩
theorem row_gone(s:Sm F N G st h)(rk:RowsOk N0 F N G st h){id sz i:Nat}{l:List RowV}(hg:st.blks.get id=some (.rows sz l)) :RowsOk N0 F N G ⟨st.blks.set id (.rows sz (l.set i .gone)),st.used⟩ h:=by
 refine ⟨rk.sub,fun q sz2 l2 hq=> ?_,ru_set rk hg _⟩
 rcases rows_get hg hq with ⟨rfl,e⟩ | ⟨hne,hq⟩
 ·cases e
  obtain ⟨r,c,h1,h2⟩:=rk.blk q sz l hg
  have hb:∀sz2 q2 d,RBlk F N N0 G st h sz2 q2 d→RBlk F N N0 G ⟨st.blks.set q (.rows sz (l.set i .gone)),st.used⟩ h sz2 q2 d:=fun sz q d hb=>hb.to hb.new hb.inN hb.noF fun p _ hp=>hid_set hg hp
  refine ⟨r,c,by rw [h1,List.length_set],hb _ _ _ h2.blk,fun j x hj=> ?_,fun j q' hj=> ?_⟩
  ·rw [List.getElem?_set] at hj
   split at hj
   ·rename_i e
    subst e
    split at hj
    ·cases hj
     rename_i hlt
     obtain ⟨v,a,b⟩:=h2.at_ i _ (List.getElem?_eq_getElem hlt)
     exact ⟨v,a,b.ok⟩
    ·cases hj
   ·obtain ⟨v,a,b⟩:=h2.at_ j x hj
    exact ⟨v,a,b.to (Fz.le_refl _) fun q d _ _ _ hb'=>hb _ _ _ hb'⟩
  ·obtain ⟨_,hj'⟩:=gone_addr hj
   obtain ⟨a,b⟩:=h2.apart j q' hj'
   exact ⟨a,fun j2 h=>b j2 (gone_addr h).2⟩
 ·exact absurd (rows_only rk hg hq) hne
theorem row_out(s:Sm F N G st h)(rk:RowsOk N0 F N G st h){id sz i id':Nat}{l:List RowV}{nn:Bool}{t:List T}(hg:st.blks.get id=some (.rows sz l))(hi:l[i]? =some (.own nn t))(i1:500≤id')(i2:id'∉st.used) :
  ∃N' G' r c v,G id=some ⟨r, .arr 1 true l.length⟩∧h.new r=some c∧c.cells[i]? =some v∧RStep N0 F N G st h F N' G' ⟨(id', .arr true sz nn t)::st.blks.set id (.rows sz (l.set i .gone)),id'::st.used⟩ h∧VR (fz F h) G' (.buf id') v:=by
 obtain ⟨r,c,hG,hR⟩:=rk.blk id sz l hg
 obtain ⟨v,hv,hrow⟩:=hR.at_ i _ hi
 have s1:Sm F N G ⟨st.blks.set id (.rows sz (l.set i .gone)),st.used⟩ h:=s.setRows hg (List.length_set ..)
 have rk1:RowsOk N0 F N G ⟨st.blks.set id (.rows sz (l.set i .gone)),st.used⟩ h:=row_gone s rk hg
 have hown1:∀q,ROwn G ⟨st.blks.set id (.rows sz (l.set i .gone)),st.used⟩ h q→ROwn G st h q:=by
  rintro q ⟨id2,sz2,l2,r2,k2,c2,g1,g2,g3,g4⟩
  rcases rows_get hg g1 with ⟨rfl,e⟩ | ⟨hne,g1⟩
  ·cases e
   exact ⟨id2,sz,l,r2,k2,c2,hg,g2,g3,g4.imp (fun h=>h) fun ⟨j,hj⟩=>⟨j,(gone_addr hj).2⟩⟩
  ·exact ⟨id2,sz2,l2,r2,k2,c2,g1,g2,g3,g4⟩
 have hget1:∀q b,(st.blks.set id (.rows sz (l.set i .gone))).get q=some b→∃b0,st.blks.get q=some b0∧(real b=true→b0=b):=by
  intro q b hq
  rcases rows_get hg hq with ⟨rfl,rfl⟩ | ⟨_,hq⟩
  ·exact ⟨_,hg,fun h=>by cases h⟩
  ·exact ⟨b,hq,fun _=>rfl⟩
 have x1:RStep N0 F N G st h F N G ⟨st.blks.set id (.rows sz (l.set i .gone)),st.used⟩ h:=
  ⟨s1,rk1,fun _ h=>h,LeG.refl _,Ext.refl _ _ _,fun L hL=>⟨⟨hL.lw.low,hL.lw.next,fun q b r k hq hw hG=>hL.lw.blk q b r k (rows_set_real hg hq (wr_real hw)).2 hw hG⟩,fun q hq=>hL.own q (hown1 q hq)⟩,fun q hq=> .inr (hq.imp (fun ⟨id2,b2,k2,g1,g2,g3⟩=>⟨id2,b2,k2,(rows_set_real hg g1 g2).2,g2,g3⟩) (hown1 q)),fun q b hq _=>(hget1 q b hq).imp fun _ h=>h.1,fun _ h=> .inl h⟩
 rcases hrow with ⟨rfl,rfl,rfl⟩ | ⟨rfl,q,d,rfl,hb,hc⟩
 ·exact ⟨N,_,r,c,_,hG,hR.blk.new,hv,x1.trans ((step_nil s1 sz i1 i2).toR s1 rk1), .bufNil (setG_self _ _ _)⟩
 ·have hle:=setG_le s i1 i2 ⟨q, .arr sz true t.length⟩
  have haddr:rowAddr l c.cells i q:=⟨t,_,hi,hv⟩
  obtain ⟨hqr,huniq⟩:=hR.apart i q haddr
  have hqown:ROwn G st h q:=⟨id,sz,l,r,_,c,hg,hG,hR.blk.new, .inr ⟨i,haddr⟩⟩
  have hnid:∀q2 b,(st.blks.set id (.rows sz (l.set i .gone))).get q2=some b→q2 ≠id':=by
   intro q2 b hq e
   obtain ⟨b0,h1,_⟩:=hget1 q2 b hq
   rw [e,s.not_in i1 i2] at h1
   cases h1
  have hget:∀q2 b,Bs.get ((id', .arr true sz true t)::st.blks.set id (.rows sz (l.set i .gone))) q2=some b→(q2=id'∧b= .arr true sz true t)∨(q2 ≠id'∧(st.blks.set id (.rows sz (l.set i .gone))).get q2=some b):=by
   intro q2 b hq
   rw [get_cons] at hq
   split at hq
   ·rename_i e; cases hq; exact .inl ⟨e,rfl⟩
   ·rename_i e; exact .inr ⟨e,hq⟩
  have hold:∀q2 g,q2 ≠id'→setG G id' ⟨q, .arr sz true t.length⟩ q2=some g→G q2=some g:=fun q2 g hq he=>by
   unfold setG at he
   rw [if_neg hq] at he
   exact he
  have hreal:∀q2 b,(st.blks.set id (.rows sz (l.set i .gone))).get q2=some b→real b=true→st.blks.get q2=some b:=fun q2 b hq hr=>(rows_set_real hg hq hr).2
  have hhid:∀p,HidB F N G st p→HidB F (fun x=>N x∧x ≠q) (setG G id' ⟨q, .arr sz true t.length⟩) ⟨(id', .arr true sz true t)::st.blks.set id (.rows sz (l.set i .gone)),id'::st.used⟩ p:=by
   rintro p ⟨h1,h2,h3⟩
   refine ⟨h1,fun h=>h2 h.1,fun id2 b2 k2 g2 r2 e2=> ?_⟩
   rcases hget _ _ g2 with ⟨m2,_⟩ | ⟨m2,q2⟩
   ·rw [m2,setG_self] at e2
    cases e2
    exact h2 hb.inN
   ·exact h3 id2 b2 k2 (hreal _ _ q2 r2) r2 (hold _ _ m2 e2)
  have hsm:Sm F (fun x=>N x∧x ≠q) (setG G id' ⟨q, .arr sz true t.length⟩) ⟨(id', .arr true sz true t)::st.blks.set id (.rows sz (l.set i .gone)),id'::st.used⟩ h:=by
   refine ⟨s.ok,fun x hx=>s.fLt x (hx.imp (fun h=>h) fun h=>h.1),fun q2 b hq=> ?_,fun id1 b1 id2 b2 r' k1 k2 g1 g2 r1 r2 e1 e2=> ?_,fun q2 b r' k hq hw hGq=> ?_,fun q2 g hq=> ?_⟩
   ·rcases hget _ _ hq with ⟨rfl,rfl⟩ | ⟨n1,hq⟩
    ·exact ⟨q,setG_self _ _ _, .inr ⟨rfl,d,hb.new,hb.sz,hc,fun _=>hb.rw,fun h=>nomatch h⟩⟩
    ·obtain ⟨r2,hr2,hbr⟩:=s1.blk q2 b hq
     exact ⟨r2,hle _ _ hr2,hbr.keep (fun _=>⟨rfl,rfl⟩) (Ext.refl _ _ _) (fun _ h=>h) hle⟩
   ·rcases hget _ _ g1 with ⟨m1,_⟩ | ⟨m1,q1⟩ <;>rcases hget _ _ g2 with ⟨m2,_⟩ | ⟨m2,q2⟩
    ·exact m1.trans m2.symm
    ·rw [m1,setG_self] at e1
     cases e1
     exact absurd (hold _ _ m2 e2) (s.unnamed hb.inN hb.noF id2 b2 k2 (hreal _ _ q2 r2) r2)
    ·rw [m2,setG_self] at e2
     cases e2
     exact absurd (hold _ _ m1 e1) (s.unnamed hb.inN hb.noF id1 b1 k1 (hreal _ _ q1 r1) r1)
    ·exact s1.inj _ _ _ _ _ _ _ q1 q2 r1 r2 (hold _ _ m1 e1) (hold _ _ m2 e2)
   ·rcases hget _ _ hq with ⟨m1,_⟩ | ⟨m1,q1⟩
    ·rw [m1,setG_self] at hGq
     cases hGq
     refine ⟨hb.noF,fun h=>h.2 rfl,fun d' hd' p hp=> ?_⟩
     rw [hb.new] at hd'
     cases hd'
     obtain ⟨a1,a2⟩:=hb.par p hp
     have:=hhid p a2
     exact ⟨a1,this.1,this.2.1,this.2.2⟩
    ·obtain ⟨p1,p2,p3⟩:=s1.apart q2 b r' k q1 hw (hold _ _ m1 hGq)
     refine ⟨p1,fun h=>p2 h.1,fun d' hd' p hp=> ?_⟩
     obtain ⟨a1,a2,a3,a4⟩:=p3 d' hd' p hp
     have:=hhid p ⟨a2,a3,fun id2 b2 k2 g2 r2=>a4 id2 b2 k2 (real_set hg g2 r2) r2⟩
     exact ⟨a1,this.1,this.2.1,this.2.2⟩
   ·by_cases e:q2=id'
    ·subst e; exact .inr (List.mem_cons_self ..)
    ·exact (s.gUsed q2 g (hold _ _ e hq)).imp (fun h=>h) (List.mem_cons_of_mem _)
  refine ⟨fun x=>N x∧x ≠q,setG G id' ⟨q, .arr sz true t.length⟩,r,c,_,hG,hR.blk.new,hv,⟨hsm,⟨fun x hx=>⟨rk.sub x hx,fun e=>hb.no0 (e▸hx)⟩,fun q2 sz2 l2 hq=> ?_,fun id1 b1 id2 b2 g1 g2 r1 r2=> ?_⟩,fun _ h=>h,hle,Ext.refl _ _ _,fun L hL=>⟨⟨hL.lw.low,hL.lw.next,fun q2 b r' k hq hw hGq=> ?_⟩,fun q2 hq=> ?_⟩,fun q2 hq=> ?_,fun q2 b hq hlt=> ?_,fun _ h=> .inl h⟩, .buf (setG_self _ _ _)⟩
  ·-- the rows
   rcases hget _ _ hq with ⟨_,e⟩ | ⟨n1,hq⟩
   ·cases e
   rcases rows_get hg hq with ⟨rfl,e⟩ | ⟨hne,hq⟩
   ·cases e
    refine ⟨r,c,by rw [List.length_set]; exact hle _ _ hG,hR.blk.to hR.blk.new ⟨hR.blk.inN,fun e=>hqr e.symm⟩ hR.blk.noF fun p _ hp=>hhid p hp,fun j x hj=> ?_,fun j q' hj=> ?_⟩
    ·rw [List.getElem?_set] at hj
     split at hj
     ·rename_i e
      subst e
      split at hj
      ·cases hj
       exact ⟨_,hv,rfl⟩
      ·cases hj
     ·rename_i hji
      obtain ⟨v2,a,b⟩:=hR.at_ j x hj
      refine ⟨v2,a,b.to (Fz.le_refl _) fun q3 d3 n3 e3 ⟨t3,e4⟩ hb3=>hb3.to hb3.new ⟨hb3.inN,fun e5=> ?_⟩ hb3.noF fun p _ hp=>hhid p hp⟩
      subst e5 e4 e3
      exact hji (huniq j ⟨t3,n3,hj,a⟩).symm
    ·obtain ⟨_,hj'⟩:=gone_addr hj
     obtain ⟨a,b⟩:=hR.apart j q' hj'
     exact ⟨a,fun j2 h=>b j2 (gone_addr h).2⟩
   ·exact absurd (rows_only rk hg hq) hne
  ·rcases hget _ _ g1 with ⟨_,rfl⟩ | ⟨_,g1⟩
   ·cases r1
   ·rcases hget _ _ g2 with ⟨_,rfl⟩ | ⟨_,g2⟩
    ·cases r2
    ·exact rk1.one _ _ _ _ g1 g2 r1 r2
  ·rcases hget _ _ hq with ⟨m1,_⟩ | ⟨m1,q1⟩
   ·rw [m1,setG_self] at hGq
    cases hGq
    exact hL.own q hqown
   ·exact hL.lw.blk q2 b r' k (hreal _ _ q1 (wr_real hw)) hw (hold _ _ m1 hGq)
  ·obtain ⟨id2,sz2,l2,r2,k2,c2,g1,g2,g3,g4⟩:=hq
   rcases hget _ _ g1 with ⟨_,e⟩ | ⟨n1,g1⟩
   ·cases e
   ·exact hL.own q2 (hown1 q2 ⟨id2,sz2,l2,r2,k2,c2,g1,hold _ _ n1 g2,g3,g4⟩)
  ·rcases hq with ⟨id2,b2,k2,g1,g2,g3⟩ | ⟨id2,sz2,l2,r2,k2,c2,g1,g2,g3,g4⟩
   ·rcases hget _ _ g1 with ⟨m1,_⟩ | ⟨m1,q1⟩
    ·rw [m1,setG_self] at g3
     cases g3
     exact .inr (.inr hqown)
    ·exact .inr (.inl ⟨id2,b2,k2,hreal _ _ q1 g2,g2,hold _ _ m1 g3⟩)
   ·rcases hget _ _ g1 with ⟨_,e⟩ | ⟨n1,g1⟩
    ·cases e
    ·exact .inr (.inr (hown1 q2 ⟨id2,sz2,l2,r2,k2,c2,g1,hold _ _ n1 g2,g3,g4⟩))
  ·rcases hget _ _ hq with ⟨m1,_⟩ | ⟨_,q1⟩
   ·omega
   ·exact (hget1 q2 b q1).imp fun _ h=>h.1
end
end Go.Proofs.Ytpfploolkmcalaa.VM
end
section
namespace Go.Proofs.Ytpfploolkmcalaa.VM
open Go AM
set_option linter.unusedSectionVars false
set_option linter.unusedSimpArgs false
set_option linter.unusedVariables false
section
variable {F F' N N' N0:NS} {G G':GM} {st st':St} {h h':Hp} {R:Type} {z:Fz} (P:Program)
theorem row_write(s:Sm F N G st h)(rk:RowsOk N0 F N G st h){sz:Nat}{l:List RowV}{r:Nat}{c:AM.Blk}(hR:RowsR F N N0 G st h sz l r c)(i:Nat)(v:Value) :
  Ext F N0 h (h.write r c i [v])∧(h.write r c i [v]).new r=some {c with cells:=splice c.cells i [v],par:=[]}∧(∀q,q ≠r→(N q∨NOwn G st q)→(h.write r c i [v]).new q=h.new q):=by
 have hlt:=(s.ok.new _ _ hR.blk.new).1
 have hkeep:∀q,q ≠r→(F q∨N q∨NOwn G st q)→(h.write r c i [v]).new q=h.new q:=by
  intro q hq hN
  rw [write_new,if_neg hq,if_neg (fun hm=> ?_)]
  obtain ⟨_,h1,h2,h3⟩:=hR.blk.par q hm
  rcases hN with hN | hN | ⟨id,b,k,e1,e2,e3⟩
  ·exact h1 hN
  ·exact h2 hN
  ·exact h3 id b k e1 e2 e3
 refine ⟨⟨rfl,rfl,Nat.le_refl _,fun q hq=>⟨?_,rfl⟩,fun q hq=> ?_⟩,by rw [write_new,if_pos rfl],fun q hq hN=>hkeep q hq (.inr hN)⟩
 ·refine hkeep q (fun e=> ?_) (hq.imp (fun h=>h) fun h=> .inl (rk.sub q h))
  subst e
  exact hq.elim hR.blk.noF hR.blk.no0
 ·rw [write_new,if_neg (by omega)]
  split
  ·cases hq2:h.new q with
   | none=>rfl
   | some d=>have:=(s.ok.new _ _ hq2).1; omega
  ·rfl
theorem row_set(s:Sm F N G st h)(rk:RowsOk N0 F N G st h){id sz i:Nat}{l:List RowV}{x:RowV}{v:Value}{r:Nat}{c:AM.Blk}(hg:st.blks.get id=some (.rows sz l))(hG:G id=some ⟨r, .arr 1 true l.length⟩)(hR:RowsR F N N0 G st h sz l r c)(hi:i<l.length)(hx:RowR F N N0 G st h sz x v)
  (hnew:∀t q n,x= .own true t→v= .slice (some ⟨q,0,none⟩) n 0→q ≠r∧∀j,j ≠i→¬rowAddr l c.cells j q):
  Sm F N G ⟨st.blks.set id (.rows sz (l.set i x)),st.used⟩ (h.write r c i [v])∧RowsOk N0 F N G ⟨st.blks.set id (.rows sz (l.set i x)),st.used⟩ (h.write r c i [v]):=by
 obtain ⟨xe,hself,hsame⟩:=row_write s rk hR i v
 have hz:Fz.le (fz F h) (fz F (h.write r c i [v])):=xe.fz fun _ h=>h
 have hnr:∀q,NOwn G st q→q ≠r:=by
  rintro q ⟨id,b,k,e1,e2,e3⟩ e
  subst e
  exact s.unnamed hR.blk.inN hR.blk.noF id b k e1 e2 e3
 have hre:∀q b,(st.blks.set id (.rows sz (l.set i x))).get q=some b→real b=true→st.blks.get q=some b:=fun q b h1 h2=>(rows_set_real hg h1 h2).2
 have hhid:∀p,HidB F N G st p→HidB F N G ⟨st.blks.set id (.rows sz (l.set i x)),st.used⟩ p:=fun p hp=>hid_set hg hp
 have hilt:i<c.cells.length:=by
  obtain ⟨v2,a,_⟩:=hR.at_ i _ (List.getElem?_eq_getElem hi)
  rcases Nat.lt_or_ge i c.cells.length with h | h
  ·exact h
  ·rw [List.getElem?_eq_none h] at a; cases a
 have hcell:∀j,(splice c.cells i [v])[j]? =if j=i then some v else c.cells[j]? :=by
  intro j
  rw [AM.splice_get _ _ _ (by simp; omega)]
  simp only [List.length_singleton]
  by_cases e:j=i
  ·subst e; rw [if_pos ⟨Nat.le_refl _,Nat.lt_succ_self _⟩,if_pos rfl]; simp
  ·rw [if_neg (by omega),if_neg e]
 have hbk:∀sz2 q d,q ≠r→RBlk F N N0 G st h sz2 q d→RBlk F N N0 G ⟨st.blks.set id (.rows sz (l.set i x)),st.used⟩ (h.write r c i [v]) sz2 q d:=fun sz2 q d hne hb=>hb.to ((hsame q hne (.inl hb.inN)).trans hb.new) hb.inN hb.noF fun p _ hp=>hhid p hp
 have hadr:∀j q,rowAddr (l.set i x) (splice c.cells i [v]) j q→(j=i∧∃t n,x= .own true t∧v= .slice (some ⟨q,0,none⟩) n 0)∨(j ≠i∧rowAddr l c.cells j q):=by
  rintro j q ⟨t,n,h1,h2⟩
  rw [hcell] at h2
  rw [List.getElem?_set] at h1
  by_cases e:j=i
  ·subst e
   rw [if_pos rfl] at h2
   rw [if_pos rfl,if_pos hi] at h1
   cases h1; cases h2; exact .inl ⟨rfl,t,n,rfl,rfl⟩
  ·rw [if_neg e] at h2
   rw [if_neg (fun h=>e h.symm)] at h1
   exact .inr ⟨e,t,n,h1,h2⟩
 refine ⟨⟨ok_write s.ok hR.blk.new i [v],s.fLt,fun q b hq=> ?_,fun id1 b1 id2 b2 r' k1 k2 g1 g2 r1 r2 e1 e2=> ?_,fun q b r' k hq hw hGq=> ?_,s.gUsed⟩,⟨rk.sub,fun q sz2 l2 hq=> ?_,ru_set rk hg _⟩⟩
 ·rcases rows_get hg hq with ⟨rfl,rfl⟩ | ⟨_,hq⟩
  ·exact ⟨r,by rw [hG]; simp only [kindOf,List.length_set],trivial⟩
  ·obtain ⟨r2,hr2,hbr⟩:=s.blk q b hq
   refine ⟨r2,hr2, ?_⟩
   have hbr':BR F N0 G h r2 b:=hbr
   exact hbr'.keep (fun hre=>⟨hsame r2 (hnr r2 ⟨q,b,_,hq,hre,hr2⟩) (.inr ⟨q,b,_,hq,hre,hr2⟩),rfl⟩) xe (fun _ h=>h) (LeG.refl _)
 ·exact s.inj _ _ _ _ _ _ _ (hre _ _ g1 r1) (hre _ _ g2 r2) r1 r2 e1 e2
 ·have hq':=hre _ _ hq (wr_real hw)
  obtain ⟨p1,p2,p3⟩:=s.apart q b r' k hq' hw hGq
  refine ⟨p1,p2,fun d hd p hp=> ?_⟩
  have hn:NOwn G st r':=⟨q,b,k,hq',wr_real hw,hGq⟩
  rw [hsame r' (hnr r' hn) (.inr hn)] at hd
  obtain ⟨a1,a2,a3,a4⟩:=p3 d hd p hp
  exact ⟨a1,a2,a3,fun id2 b2 k2 g2 r2=>a4 id2 b2 k2 (hre _ _ g2 r2) r2⟩
 ·rcases rows_get hg hq with ⟨rfl,e⟩ | ⟨hne,hq⟩
  ·cases e
   refine ⟨r,_,by rw [List.length_set]; exact hG,⟨hself,hR.blk.sz,hR.blk.rw,hR.blk.inN,hR.blk.no0,hR.blk.noF,fun p hp=>(by cases hp)⟩,fun j y hj=> ?_,fun j q' hj=> ?_⟩
   ·rw [hcell]
    rw [List.getElem?_set] at hj
    by_cases e:j=i
    ·subst e
     rw [if_pos rfl,if_pos hi] at hj
     rw [if_pos rfl]
     cases hj
     exact ⟨v,rfl,hx.to hz fun q2 d n e1 ⟨t,e2⟩ hb=>hbk _ _ _ (hnew t q2 n e2 e1).1 hb⟩
    ·rw [if_neg e]
     rw [if_neg (fun h=>e h.symm)] at hj
     obtain ⟨v2,a,b⟩:=hR.at_ j y hj
     exact ⟨v2,a,b.to hz fun q2 d n e1 ⟨t,e2⟩ hb=>hbk _ _ _ (hR.apart j q2 ⟨t,n,by rw [hj,e2],by rw [a,e1]⟩).1 hb⟩
   ·rcases hadr j q' hj with ⟨rfl,t,n,e1,e2⟩ | ⟨hji,hold⟩
    ·refine ⟨(hnew t q' n e1 e2).1,fun j2 hj2=> ?_⟩
     rcases hadr j2 q' hj2 with ⟨e,_⟩ | ⟨hne,hold⟩
     ·exact e
     ·exact absurd hold ((hnew t q' n e1 e2).2 j2 hne)
    ·refine ⟨(hR.apart j q' hold).1,fun j2 hj2=> ?_⟩
     rcases hadr j2 q' hj2 with ⟨rfl,t,n,e1,e2⟩ | ⟨_,hold2⟩
     ·exact absurd hold ((hnew t q' n e1 e2).2 j hji)
     ·exact (hR.apart j q' hold).2 j2 hold2
  ·exact absurd (rows_only rk hg hq) hne
theorem row_step(s:Sm F N G st h)(rk:RowsOk N0 F N G st h){id sz i:Nat}{l:List RowV}{x:RowV}{v:Value}{r:Nat}{c:AM.Blk}(hg:st.blks.get id=some (.rows sz l))(hG:G id=some ⟨r, .arr 1 true l.length⟩)(hR:RowsR F N N0 G st h sz l r c)(hi:i<l.length)(hx:RowR F N N0 G st h sz x v)
  (hnew:∀t q n,x= .own true t→v= .slice (some ⟨q,0,none⟩) n 0→q ≠r∧∀j,j ≠i→¬rowAddr l c.cells j q):
  RowsOk N0 F N G ⟨st.blks.set id (.rows sz (l.set i x)),st.used⟩ (h.write r c i [v])∧∀q,ROwn G ⟨st.blks.set id (.rows sz (l.set i x)),st.used⟩ (h.write r c i [v]) q→(ROwn G st h q)∨∃t n,x= .own true t∧v= .slice (some ⟨q,0,none⟩) n 0:=by
 obtain ⟨xe,hself,hsame⟩:=row_write s rk hR i v
 refine ⟨(row_set s rk hg hG hR hi hx hnew).2, ?_⟩
 rintro q ⟨id2,sz2,l2,r2,k2,c2,g1,g2,g3,g4⟩
 rcases rows_get hg g1 with ⟨rfl,e⟩ | ⟨hne,g1⟩
 ·cases e
  rw [hG] at g2
  cases g2
  rw [hself] at g3
  cases g3
  rcases g4 with rfl | ⟨j,t,n,h1,h2⟩
  ·exact .inl ⟨id2,sz,l,q,_,c,hg,hG,hR.blk.new, .inl rfl⟩
  ·have hilt:i<c.cells.length:=by
    obtain ⟨v2,a,_⟩:=hR.at_ i _ (List.getElem?_eq_getElem hi)
    rcases Nat.lt_or_ge i c.cells.length with h | h
    ·exact h
    ·rw [List.getElem?_eq_none h] at a; cases a
   rw [AM.splice_get _ _ _ (by simp; omega)] at h2
   simp only [List.length_singleton] at h2
   rw [List.getElem?_set] at h1
   by_cases e:j=i
   ·subst e
    rw [if_pos ⟨Nat.le_refl _,Nat.lt_succ_self _⟩] at h2
    rw [if_pos rfl,if_pos hi] at h1
    cases h1
    simp at h2
    exact .inr ⟨t,n,rfl,h2⟩
   ·rw [if_neg (by omega)] at h2
    rw [if_neg (fun h=>e h.symm)] at h1
    exact .inl ⟨id2,sz,l,r,_,c,hg,hG,hR.blk.new, .inr ⟨j,t,n,h1,h2⟩⟩
 ·exact absurd (rows_only rk hg g1) hne
theorem row_in(s:Sm F N G st h)(rk:RowsOk N0 F N G st h){id sz i id':Nat}{l:List RowV}{nn:Bool}{t:List T}{r:Nat}{c:AM.Blk}(hg:st.blks.get id=some (.rows sz l))(hG:G id=some ⟨r, .arr 1 true l.length⟩)(hR:RowsR F N N0 G st h sz l r c)(hi:i<l.length)(hg':st.blks.get id'=some (.arr true sz nn t)){v:Value}(hv:VR z G (.buf id') v) :
  ∃N',RStep N0 F N G st h F N' G ⟨(st.blks.del id').set id (.rows sz (l.set i (.own nn t))),st.used⟩ (h.write r c i [v]):=by
 have hne:id ≠id':=fun e=>by subst e; rw [hg] at hg'; cases hg'
 have hgd:(st.blks.del id').get id=some (.rows sz l):=by rw [get_del,if_neg hne]; exact hg
 have hdel:∀q b,(st.blks.del id').get q=some b→q ≠id'∧st.blks.get q=some b:=by
  intro q b hq
  rw [get_del] at hq
  split at hq
  ·cases hq
  ·rename_i e; exact ⟨e,hq⟩
 have hwq:∀x,(nn=true∧∃k,G id'=some ⟨x,k⟩)→NOwn G st x∧¬F x∧¬N x∧∀c,h.new x=some c→∀p∈c.par,p<x∧¬F p∧¬N p∧∀id2 b2 k2,st.blks.get id2=some b2→real b2=true→G id2 ≠some ⟨p,k2⟩:=by
  rintro x ⟨rfl,k,hk⟩
  obtain ⟨a1,a2,a3⟩:=s.apart id' _ x k hg' rfl hk
  exact ⟨⟨id',_,k,hg',rfl,hk⟩,a1,a2,a3⟩
 have hsm1:Sm F (fun x=>N x∨(nn=true∧∃k,G id'=some ⟨x,k⟩)) G ⟨st.blks.del id',st.used⟩ h:=by
  refine ⟨s.ok,fun x hx=> ?_,fun q b hq=>s.blk q b (hdel q b hq).2,fun id1 b1 id2 b2 r' k1 k2 g1 g2=>s.inj _ _ _ _ _ _ _ (hdel _ _ g1).2 (hdel _ _ g2).2,fun q b r' k hq hw hGq=> ?_,s.gUsed⟩
  ·rcases hx with hx | hx | hx
   ·exact s.fLt x (.inl hx)
   ·exact s.fLt x (.inr hx)
   ·obtain ⟨⟨_,b,_,e1,e2,e3⟩,_⟩:=hwq x hx
    exact (s.lt e1 e2 e3).2
  ·obtain ⟨hqn,hq⟩:=hdel q b hq
   obtain ⟨p1,p2,p3⟩:=s.apart q b r' k hq hw hGq
   refine ⟨p1, ?_,fun d hd p hp=> ?_⟩
   ·rintro (h | ⟨h1,k',h2⟩)
    ·exact p2 h
    ·subst h1
     exact hqn (s.inj _ _ _ _ _ _ _ hq hg' (wr_real hw) rfl hGq h2)
   ·obtain ⟨a1,a2,a3,a4⟩:=p3 d hd p hp
    refine ⟨a1,a2, ?_,fun id2 b2 k2 g2 r2=>a4 id2 b2 k2 (hdel _ _ g2).2 r2⟩
    rintro (h | ⟨h1,k',h2⟩)
    ·exact a3 h
    ·subst h1
     exact a4 id' _ k' hg' rfl h2
 have hhid:∀p,HidB F N G st p→HidB F (fun x=>N x∨(nn=true∧∃k,G id'=some ⟨x,k⟩)) G ⟨st.blks.del id',st.used⟩ p:=by
  rintro p ⟨h1,h2,h3⟩
  refine ⟨h1, ?_,fun id2 b2 k2 g2 r2=>h3 id2 b2 k2 (hdel _ _ g2).2 r2⟩
  rintro (h | ⟨h4,k',h5⟩)
  ·exact h2 h
  ·subst h4
   exact h3 id' _ k' hg' rfl h5
 have hbk:∀sz q d,RBlk F N N0 G st h sz q d→RBlk F (fun x=>N x∨(nn=true∧∃k,G id'=some ⟨x,k⟩)) N0 G ⟨st.blks.del id',st.used⟩ h sz q d:=fun sz q d hb=>hb.to hb.new (.inl hb.inN) hb.noF fun p _ hp=>hhid p hp
 have hR1:RowsR F (fun x=>N x∨(nn=true∧∃k,G id'=some ⟨x,k⟩)) N0 G ⟨st.blks.del id',st.used⟩ h sz l r c:=⟨hbk _ _ _ hR.blk,fun j y hy=>let ⟨v2,a,b⟩:=hR.at_ j y hy; ⟨v2,a,b.to (Fz.le_refl _) fun q d _ _ _ hb=>hbk _ _ _ hb⟩,hR.apart⟩
 have rk1:RowsOk N0 F (fun x=>N x∨(nn=true∧∃k,G id'=some ⟨x,k⟩)) G ⟨st.blks.del id',st.used⟩ h:=by
  refine ⟨fun x hx=> .inl (rk.sub x hx),fun q sz2 l2 hq=> ?_,fun id1 b1 id2 b2 g1 g2=>rk.one _ _ _ _ (hdel _ _ g1).2 (hdel _ _ g2).2⟩
  have hq0:=(hdel _ _ hq).2
  have:=rows_only rk hg hq0
  subst this
  rw [hg] at hq0
  cases hq0
  exact ⟨r,c,hG,hR1⟩
 have hx:RowR F (fun x=>N x∨(nn=true∧∃k,G id'=some ⟨x,k⟩)) N0 G ⟨st.blks.del id',st.used⟩ h sz (.own nn t) v:=by
  rcases s.arr hg' hv with ⟨rfl,rfl,rfl⟩ | ⟨rfl,q,d,hGq,rfl,hd,hsz,hcs,hrw,_⟩
  ·exact .inl ⟨rfl,rfl,rfl⟩
  ·obtain ⟨_,a1,a2,a3⟩:=hwq q ⟨rfl,_,hGq⟩
   exact .inr ⟨rfl,q,d,rfl,⟨hd,hsz,hrw rfl, .inr ⟨rfl,_,hGq⟩,fun h=>a2 (rk.sub q h),a1,fun p hp=>let ⟨b1,b2,b3,b4⟩:=a3 d hd p hp; ⟨b1,hhid p ⟨b2,b3,b4⟩⟩⟩,hcs⟩
 have hvq:∀(t':List T) (q n:Nat),RowV.own nn t= .own true t'→v= .slice (some ⟨q,0,none⟩) n 0→nn=true∧∃k,G id'=some ⟨q,k⟩:=by
  intro t' q n e1 e2
  cases e1
  rcases s.arr hg' hv with ⟨h,_⟩ | ⟨_,q2,d,hGq,e3,_⟩
  ·cases h
  ·rw [e3] at e2
   cases e2
   exact ⟨rfl,_,hGq⟩
 have hnew:∀(t':List T) (q n:Nat),RowV.own nn t= .own true t'→v= .slice (some ⟨q,0,none⟩) n 0→q ≠r∧∀j,j ≠i→¬rowAddr l c.cells j q:=by
  intro t' q n e1 e2
  obtain ⟨_,_,h2,_⟩:=hwq q (hvq t' q n e1 e2)
  refine ⟨fun e=>h2 (e▸hR.blk.inN),fun j _ ⟨t3,n3,e4,e5⟩=> ?_⟩
  obtain ⟨v3,b1,b2⟩:=hR.at_ j _ e4
  rw [e5] at b1
  cases b1
  rcases b2 with ⟨h,_⟩ | ⟨_,q4,d4,e6,hb4,_⟩
  ·cases h
  ·cases e6
   exact h2 hb4.inN
 obtain ⟨hsm,_⟩:=row_set hsm1 rk1 hgd hG hR1 hi hx hnew
 obtain ⟨xe,hself,hsame⟩:=row_write hsm1 rk1 hR1 i v
 obtain ⟨hrk,hown⟩:=row_step hsm1 rk1 hgd hG hR1 hi hx hnew
 have hown0:∀q,ROwn G ⟨st.blks.del id',st.used⟩ h q→ROwn G st h q:=fun q ⟨id2,sz2,l2,r2,k2,c2,g1,g⟩=>⟨id2,sz2,l2,r2,k2,c2,(hdel _ _ g1).2,g⟩
 have hown1:∀q,ROwn G ⟨(st.blks.del id').set id (.rows sz (l.set i (.own nn t))),st.used⟩ (h.write r c i [v]) q→Own G st h q∧∀L,RLw L G st h→L≤q∧∀d,h.new q=some d→∀p∈d.par,L≤p:=by
  intro q hq
  rcases hown q hq with hq | ⟨t',n,e1,e2⟩
  ·exact ⟨.inr (hown0 q hq),fun L hL=>hL.own q (hown0 q hq)⟩
  ·obtain ⟨h1,k,h2⟩:=hvq t' q n e1 e2
   subst h1
   exact ⟨.inl ⟨id',_,k,hg',rfl,h2⟩,fun L hL=>hL.lw.blk id' _ q k hg' rfl h2⟩
 have hre:∀q b,((st.blks.del id').set id (.rows sz (l.set i (.own nn t)))).get q=some b→real b=true→st.blks.get q=some b∧(st.blks.del id').get q=some b:=fun q b h1 h2=>⟨(hdel _ _ (rows_set_real hgd h1 h2).2).2,(rows_set_real hgd h1 h2).2⟩
 have hpar:∀L q,L≤q→(∀d,h.new q=some d→∀p∈d.par,L≤p)→((fun x=>N x∨(nn=true∧∃k,G id'=some ⟨x,k⟩)) q∨NOwn G ⟨st.blks.del id',st.used⟩ q)→∀d,(h.write r c i [v]).new q=some d→∀p∈d.par,L≤p:=by
  intro L q hLq h1 h2 d hd p hp
  by_cases e:q=r
  ·subst e
   rw [hself] at hd
   cases hd
   cases hp
  ·rw [hsame q e h2] at hd
   exact h1 d hd p hp
 refine ⟨_,hsm,hrk,fun _ h=>h,LeG.refl _,xe,fun L hL=>⟨⟨?_,hL.lw.next,fun q2 b r' k hq hw hGq=> ?_⟩,fun q2 hq=> ?_⟩,fun q2 hq=> ?_,fun q2 b hq hlt=> ?_,fun _ h=> .inl h⟩
 ·obtain ⟨h1,h2⟩:=hL.own r ⟨id,sz,l,r,_,c,hg,hG,hR.blk.new, .inl rfl⟩
  have:=fold_min_ge c.par r h1 (h2 c hR.blk.new)
  have:=hL.lw.low
  show L≤min h.low _
  omega
 ·obtain ⟨e1,e2⟩:=hre q2 b hq (wr_real hw)
  obtain ⟨a1,a2⟩:=hL.lw.blk q2 b r' k e1 hw hGq
  exact ⟨a1,hpar L r' a1 a2 (.inr ⟨q2,b,k,e2,wr_real hw,hGq⟩)⟩
 ·obtain ⟨_,h2⟩:=hown1 q2 hq
  obtain ⟨a1,a2⟩:=h2 L hL
  refine ⟨a1,hpar L q2 a1 a2 (.inl ?_)⟩
  rcases hown q2 hq with hq | ⟨t',n,e1,e2⟩
  ·obtain ⟨id2,sz2,l2,r2,k2,c2,g1,g2,g3,g4⟩:=hq
   have e:=rows_only rk1 hgd g1
   subst e
   have hgd2:=hgd
   rw [hgd2] at g1
   cases g1
   rw [hG] at g2
   cases g2
   rw [hR.blk.new] at g3
   cases g3
   rcases g4 with rfl | ⟨j,t3,n3,e4,e5⟩
   ·exact hR1.blk.inN
   ·obtain ⟨v3,b1,b2⟩:=hR1.at_ j _ e4
    rw [e5] at b1
    cases b1
    rcases b2 with ⟨h,_⟩ | ⟨_,q4,d4,e6,hb4,_⟩
    ·cases h
    ·cases e6
     exact hb4.inN
  ·exact .inr (hvq t' q2 n e1 e2)
 ·rcases hq with ⟨id2,b2,k2,g1,g2,g3⟩ | hq
  ·exact .inr (.inl ⟨id2,b2,k2,(hre _ _ g1 g2).1,g2,g3⟩)
  ·exact .inr (hown1 q2 hq).1
 ·rcases rows_get hgd hq with ⟨rfl,_⟩ | ⟨_,hq⟩
  ·exact ⟨_,hg⟩
  ·exact ⟨b,(hdel _ _ hq).2⟩
end
end Go.Proofs.Ytpfploolkmcalaa.VM
end
section
namespace Go.Proofs.Ytpfploolkmcalaa.VM
open Go AM
set_option linter.unusedSectionVars false
set_option linter.unusedSimpArgs false
set_option linter.unusedVariables false
section
variable {F F' N N' N0:NS} {G G':GM} {st st':St} {h h':Hp} {R:Type} {z:Fz} (P:Program)
theorem noRows_get{bs:Bs}(hn:noRows bs=true){id:Nat}{b:Blk}(hg:bs.get id=some b) :isRows b=false:=by
 induction bs with
 | nil=>cases hg
 | cons x bs ih=>
  obtain ⟨i,c⟩:=x
  unfold noRows at hn
  simp only [List.all_cons,Bool.and_eq_true,Bool.not_eq_true'] at hn
  rw [get_cons] at hg
  split at hg
  ·cases hg; exact hn.1
  ·exact ih (by unfold noRows; simpa using hn.2) hg
theorem RowsOk.none(hs:∀r,N0 r→N r)(hn:noRows st.blks=true) :RowsOk N0 F N G st h:=
 ⟨hs,fun id sz l hg=>(by have:=noRows_get hn hg; cases this),fun id1 b1 id2 b2 g1 g2 r1 r2=>(by rw [noRows_get hn g1] at r1; cases r1)⟩
theorem set_get{bs:Bs}{id:Nat}{b b':Blk}(hg:bs.get id=some b){q:Nat}{c:Blk}(hq:(bs.set id b').get q=some c) :(q=id∧c=b')∨(q ≠id∧bs.get q=some c):=rows_get hg hq
theorem rowOf_cases(x:T) :(∃s,x= .list s false []∧rowOf x= .own false [])∨(∃s nn l,x= .list s nn l∧rowOf x= .tree x)∨rowOf x= .gone∨rowOf x= .tree x∧x.cells=[x]:=by
 cases x with
 | list s nn l=>
  simp only [rowOf]
  cases hc:(!nn &&l.isEmpty)
  ·exact .inr (.inl ⟨s,nn,l,rfl,rfl⟩)
  ·simp only [Bool.and_eq_true,Bool.not_eq_true',List.isEmpty_iff] at hc
   obtain ⟨rfl,rfl⟩:=hc
   exact .inl ⟨s,rfl,rfl⟩
 | agg cs=>exact .inr (.inr (.inl rfl))
 | _=>exact .inr (.inr (.inr ⟨rfl,rfl⟩))
theorem rows_of(s:Sm F N G st h)(rk:RowsOk N0 F N G st h){id:Nat}{l:List T}{r:Nat}{k:Gk}(hg:st.blks.get id=some (.arr true 1 true l))(hG:G id=some ⟨r,k⟩)(hn:noRows st.blks=true)(sz:Nat) :
  ∃N',RStep N0 F N G st h F N' G ⟨st.blks.set id (.rows sz (l.map rowOf)),st.used⟩ h:=by
 obtain ⟨p1,p2,p3⟩:=s.apart id _ r k hg rfl hG
 obtain ⟨e,hb⟩:=s.br hg hG
 rcases hb with ⟨h0,_⟩ | ⟨_,c,c1,c2,c3,c4,_⟩
 ·cases h0
 have hrt:=(s.lt hg rfl hG).2
 have hre:∀q b,(st.blks.set id (.rows sz (l.map rowOf))).get q=some b→real b=true→q ≠id∧st.blks.get q=some b:=by
  intro q b hq hr
  rcases set_get hg hq with ⟨_,rfl⟩ | h
  ·cases hr
  ·exact h
 have hmap:∀(i:Nat) (t:List T),(l.map rowOf)[i]? ≠some (.own true t):=by
  intro i t hi
  rw [List.getElem?_map] at hi
  obtain ⟨x,_,h2⟩:=Option.map_eq_some_iff.1 hi
  rcases rowOf_cases x with ⟨_,_,e⟩ | ⟨_,_,_,_,e⟩ | e | ⟨e,_⟩ <;>rw [e] at h2 <;>cases h2
 have hpar:∀p∈c.par,p<r∧HidB F (fun x=>N x∨x=r) G ⟨st.blks.set id (.rows sz (l.map rowOf)),st.used⟩ p:=by
  intro p hp
  obtain ⟨a1,a2,a3,a4⟩:=p3 c c1 p hp
  exact ⟨a1,a2,fun h=>h.elim a3 (fun e=>by omega),fun id2 b2 k2 g2 r2=>a4 id2 b2 k2 (hre _ _ g2 r2).2 r2⟩
 have hblk:RBlk F (fun x=>N x∨x=r) N0 G ⟨st.blks.set id (.rows sz (l.map rowOf)),st.used⟩ h 1 r c:=
  ⟨c1,c2,c4 rfl, .inr rfl,fun h=>p2 (rk.sub r h),p1,hpar⟩
 have hk:k= .arr 1 true l.length:=e
 subst hk
 have hown:∀q,ROwn G ⟨st.blks.set id (.rows sz (l.map rowOf)),st.used⟩ h q→q=r:=by
  rintro q ⟨id2,sz2,l2,r2,k2,c2,g1,g2,g3,g4⟩
  rcases set_get hg g1 with ⟨rfl,e⟩ | ⟨_,g1⟩
  ·cases e
   rw [hG] at g2
   cases g2
   rcases g4 with h | ⟨i,t,n,h1,_⟩
   ·exact h
   ·exact absurd h1 (hmap i t)
  ·have:=noRows_get hn g1
   cases this
 have hnown:NOwn G st r:=⟨id,_,_,hg,rfl,hG⟩
 refine ⟨fun x=>N x∨x=r,⟨s.ok, ?_,fun q b hq=> ?_,fun id1 b1 id2 b2 r' k1 k2 g1 g2 r1 r2 e1 e2=>s.inj _ _ _ _ _ _ _ (hre _ _ g1 r1).2 (hre _ _ g2 r2).2 r1 r2 e1 e2,fun q b r' k hq hw hGq=> ?_,s.gUsed⟩,⟨fun x hx=> .inl (rk.sub x hx),fun q sz2 l2 hq=> ?_,fun id1 b1 id2 b2 g1 g2 r1 r2=> ?_⟩,fun _ h=>h,LeG.refl _,Ext.refl _ _ _,fun L hL=>⟨⟨hL.lw.low,hL.lw.next,fun q b r' k hq hw hGq=>hL.lw.blk q b r' k (hre _ _ hq (wr_real hw)).2 hw hGq⟩,fun q hq=> ?_⟩,fun q hq=> ?_,fun q b hq hlt=> ?_,fun _ h=> .inl h⟩
 ·rintro x (hx | hx | rfl)
  ·exact s.fLt x (.inl hx)
  ·exact s.fLt x (.inr hx)
  ·exact hrt
 ·rcases set_get hg hq with ⟨rfl,rfl⟩ | ⟨_,hq⟩
  ·exact ⟨r,by rw [hG]; simp only [kindOf,List.length_map],trivial⟩
  ·exact s.blk q b hq
 ·obtain ⟨hne,hq0⟩:=hre _ _ hq (wr_real hw)
  obtain ⟨q1,q2,q3⟩:=s.apart q b r' k hq0 hw hGq
  refine ⟨q1,fun h=>h.elim q2 fun e=> ?_,fun d hd p hp=> ?_⟩
  ·subst e
   exact hne (s.inj _ _ _ _ _ _ _ hq0 hg (wr_real hw) rfl hGq hG)
  ·obtain ⟨a1,a2,a3,a4⟩:=q3 d hd p hp
   refine ⟨a1,a2,fun h=>h.elim a3 fun e=> ?_,fun id2 b2 k2 g2 r2=>a4 id2 b2 k2 (hre _ _ g2 r2).2 r2⟩
   subst e
   exact a4 id _ _ hg rfl hG
 ·rcases set_get hg hq with ⟨rfl,e⟩ | ⟨_,hq⟩
  ·cases e
   refine ⟨r,c,by rw [List.length_map]; exact hG,hblk,fun i x hi=> ?_,fun i q' ⟨t,n,hi,_⟩=>absurd hi (hmap i t)⟩
   rw [List.getElem?_map] at hi
   obtain ⟨x0,hx0,rfl⟩:=Option.map_eq_some_iff.1 hi
   have hx1:=c3.each x0 (List.mem_of_getElem? hx0)
   obtain ⟨y0,hy0⟩:∃y0,x0.cells[0]? =some y0:=⟨_,List.getElem?_eq_getElem (by omega)⟩
   obtain ⟨v,b1,b2⟩:=c3.at_ i x0 0 y0 hx0 hy0
   rw [Nat.mul_one,Nat.add_zero] at b1
   refine ⟨v,b1, ?_⟩
   rcases rowOf_cases x0 with ⟨s0,e1,e⟩ | ⟨s0,nn0,l0,e1,e⟩ | e | ⟨e,e1⟩ <;>rw [e]
   ·subst e1
    cases hy0
    cases b2
    exact .inl ⟨rfl,rfl,rfl⟩
   ·have:y0=x0:=by subst e1; cases hy0; rfl
    rw [this] at b2
    exact b2
   ·exact sr_okCell b2
   ·have:y0=x0:=by rw [e1] at hy0; cases hy0; rfl
    rw [this] at b2
    exact b2
  ·have:=noRows_get hn hq
   cases this
 ·have hid:∀q b,(st.blks.set id (.rows sz (l.map rowOf))).get q=some b→isRows b=true→q=id:=by
   intro q b hq hr
   rcases set_get hg hq with ⟨e,_⟩ | ⟨_,hq⟩
   ·exact e
   ·rw [noRows_get hn hq] at hr; cases hr
  exact (hid _ _ g1 r1).trans (hid _ _ g2 r2).symm
 ·have:=hown q hq
  subst this
  exact hL.lw.blk id _ q _ hg rfl hG
 ·rcases hq with ⟨id2,b2,k2,g1,g2,g3⟩ | hq
  ·exact .inr (.inl ⟨id2,b2,k2,(hre _ _ g1 g2).2,g2,g3⟩)
  ·have:=hown q hq
   subst this
   exact .inr (.inl hnown)
 ·rcases set_get hg hq with ⟨rfl,_⟩ | ⟨_,hq⟩
  ·exact ⟨_,hg⟩
  ·exact ⟨b,hq⟩
theorem trees_at{sz:Nat} :∀{l:List RowV} {ts:List T},treesOf sz l=some ts→ts.length=l.length∧∀(i:Nat) (x:T),ts[i]? =some x→(∃nn t,l[i]? =some (.own nn t)∧x= .list sz nn t)∨l[i]? =some (.tree x)
 | [],ts,h=>by cases h; exact ⟨rfl,fun i x hi=>by simp at hi⟩
 | y::l,ts,h=>by
  cases y with
  | gone=>cases h
  | own nn t=>
   have h:(treesOf sz l).map (.list sz nn t:: ·)=some ts:=h
   obtain ⟨us,h1,rfl⟩:=Option.map_eq_some_iff.1 h
   obtain ⟨h2,h3⟩:=trees_at h1
   refine ⟨by simp [h2],fun i x hi=> ?_⟩
   cases i with
   | zero=>cases hi; exact .inl ⟨nn,t,rfl,rfl⟩
   | succ i=>exact h3 i x hi
  | tree y=>
   have h:(treesOf sz l).map (y:: ·)=some ts:=h
   obtain ⟨us,h1,rfl⟩:=Option.map_eq_some_iff.1 h
   obtain ⟨h2,h3⟩:=trees_at h1
   refine ⟨by simp [h2],fun i x hi=> ?_⟩
   cases i with
   | zero=>cases hi; exact .inr rfl
   | succ i=>exact h3 i x hi
theorem sr_cells1{x:T}{v:Value}(h:SR z x v) :x.cells=[x]:=by cases h <;>rfl
theorem un_rows(s:Sm F N G st h)(rk:RowsOk N0 F N G st h){id sz:Nat}{l:List RowV}{ts:List T}(hg:st.blks.get id=some (.rows sz l))(ht:treesOf sz l=some ts) :
  ∃F' N',RStep N0 F N G st h F' N' G ⟨st.blks.set id (.arr true 1 true ts),st.used⟩ h:=by
 obtain ⟨r,c,hG,hR⟩:=rk.blk id sz l hg
 obtain ⟨hlen,hat⟩:=trees_at ht
 have haddr:∀i q,rowAddr l c.cells i q→N q∧¬N0 q∧q<h.next∧h.base≤q∧¬F q:=by
  rintro i q ⟨t,n,e4,e5⟩
  obtain ⟨v3,b1,b2⟩:=hR.at_ i _ e4
  rw [e5] at b1
  cases b1
  rcases b2 with ⟨h,_⟩ | ⟨_,q4,d4,e6,hb4,_⟩
  ·cases h
  ·cases e6
   exact ⟨hb4.inN,hb4.no0,(s.ok.new _ _ hb4.new).2,(s.ok.new _ _ hb4.new).1,hb4.noF⟩
 have hsub:Sub F (fun x=>F x∨∃i,rowAddr l c.cells i x):=fun x hx=> .inl hx
 have hz:Fz.le (fz F h) (fz (fun x=>F x∨∃i,rowAddr l c.cells i x) h):=(Ext.refl F N h).fz hsub
 have hget:∀q b,(st.blks.set id (.arr true 1 true ts)).get q=some b→(q=id∧b= .arr true 1 true ts)∨(q ≠id∧st.blks.get q=some b):=fun q b hq=>set_get hg hq
 have hnr:∀q b k,st.blks.get q=some b→real b=true→G q ≠some ⟨r,k⟩:=s.unnamed hR.blk.inN hR.blk.noF
 have hcell:∀(i:Nat) (x:T),ts[i]? =some x→∃v,c.cells[i]? =some v∧SR (fz (fun x=>F x∨∃i,rowAddr l c.cells i x) h) x v:=by
  intro i x hi
  rcases hat i x hi with ⟨nn,t,h1,rfl⟩ | h1
  ·obtain ⟨v,b1,b2⟩:=hR.at_ i _ h1
   refine ⟨v,b1, ?_⟩
   rcases b2 with ⟨rfl,rfl,rfl⟩ | ⟨rfl,q,d,rfl,hb,hc⟩
   ·exact .nil sz
   ·have hF:F q∨∃i,rowAddr l c.cells i q:= .inr ⟨i,t,_,h1,b1⟩
    have hbase:=(s.ok.new _ _ hb.new).1
    refine .list (fun j=>(d.cells[j]?).getD (.tuple #[])) (.inr ⟨hF,hbase,rfl,d,hb.new,hb.sz⟩) hc.each (fun j hj=>⟨.inr (by unfold Addr.add; split <;>exact hF), ?_⟩) (fun i2 x2 j y h2 h3=> ?_)
    ·rw [add_none,cell_of hb.new,Nat.zero_add]
     have:=hc.len
     rw [List.getElem?_eq_getElem (by omega)]
     rfl
    ·obtain ⟨v2,a1,a2⟩:=hc.at_ i2 x2 j y h2 h3
     show SR _ y ((d.cells[i2*sz+j]?).getD _)
     rw [a1]
     exact a2.mono hz
  ·obtain ⟨v,b1,b2⟩:=hR.at_ i _ h1
   exact ⟨v,b1,SR.mono hz b2⟩
 have hcells:Cells (fz (fun x=>F x∨∃i,rowAddr l c.cells i x) h) 1 ts c.cells:=by
  refine ⟨?_,fun x hx=> ?_,fun i x j y hi hj=> ?_⟩
  ·rw [Nat.mul_one]
   rcases Nat.lt_or_ge c.cells.length ts.length with hlt | hge
   ·obtain ⟨v,b1,_⟩:=hcell _ _ (List.getElem?_eq_getElem hlt)
    rw [List.getElem?_eq_none (Nat.le_refl _)] at b1
    cases b1
   ·exact hge
  ·obtain ⟨i,hi⟩:=List.getElem?_of_mem hx
   obtain ⟨v,_,b2⟩:=hcell i x hi
   rw [sr_cells1 b2]
   rfl
  ·obtain ⟨v,b1,b2⟩:=hcell i x hi
   rw [sr_cells1 b2] at hj
   cases j with
   | zero=>
    cases hj
    exact ⟨v,by rw [Nat.mul_one,Nat.add_zero]; exact b1,b2⟩
   | succ j=>simp at hj
 refine ⟨fun x=>F x∨∃i,rowAddr l c.cells i x,fun x=>N x∧x ≠r,⟨s.ok, ?_,fun q b hq=> ?_,fun id1 b1 id2 b2 r' k1 k2 g1 g2 r1 r2 e1 e2=> ?_,fun q b r' k hq hw hGq=> ?_,s.gUsed⟩,⟨fun x hx=>⟨rk.sub x hx,fun e=>hR.blk.no0 (e▸hx)⟩,fun q sz2 l2 hq=> ?_,fun id1 b1 id2 b2 g1 g2 r1 r2=> ?_⟩,hsub,LeG.refl _,Ext.refl _ _ _,fun L hL=>⟨⟨hL.lw.low,hL.lw.next,fun q b r' k hq hw hGq=> ?_⟩,fun q hq=> ?_⟩,fun q hq=> ?_,fun q b hq hlt=> ?_,fun x hx=> ?_⟩
 ·rintro x ((hx | ⟨i,hx⟩) | hx)
  ·exact s.fLt x (.inl hx)
  ·exact (haddr i x hx).2.2.1
  ·exact s.fLt x (.inr hx.1)
 ·rcases hget _ _ hq with ⟨rfl,rfl⟩ | ⟨_,hq⟩
  ·exact ⟨r,by rw [hG]; simp only [kindOf,hlen], .inr ⟨rfl,c,hR.blk.new,hR.blk.sz,hcells,fun _=>hR.blk.rw,fun h=>nomatch h⟩⟩
  ·obtain ⟨r2,hr2,hbr⟩:=s.blk q b hq
   exact ⟨r2,hr2,hbr.keep (fun _=>⟨rfl,rfl⟩) (Ext.refl _ _ _) hsub (LeG.refl _)⟩
 ·rcases hget _ _ g1 with ⟨m1,_⟩ | ⟨m1,q1⟩ <;>rcases hget _ _ g2 with ⟨m2,_⟩ | ⟨m2,q2⟩
  ·exact m1.trans m2.symm
  ·rw [m1,hG] at e1
   cases e1
   exact absurd e2 (hnr _ _ _ q2 r2)
  ·rw [m2,hG] at e2
   cases e2
   exact absurd e1 (hnr _ _ _ q1 r1)
  ·exact s.inj _ _ _ _ _ _ _ q1 q2 r1 r2 e1 e2
 ·have hno:∀p,¬F p→¬N p→¬(F p∨∃i,rowAddr l c.cells i p):=fun p h1 h2 h=>h.elim h1 fun ⟨i,hi⟩=>h2 (haddr i p hi).1
  rcases hget _ _ hq with ⟨rfl,rfl⟩ | ⟨m1,q1⟩
  ·rw [hG] at hGq
   cases hGq
   refine ⟨?_,fun h=>h.2 rfl,fun d hd p hp=> ?_⟩
   ·rintro (h | ⟨i,hi⟩)
    ·exact hR.blk.noF h
    ·exact (hR.apart i _ hi).1 rfl
   ·rw [hR.blk.new] at hd
    cases hd
    obtain ⟨a1,a2,a3,a4⟩:=hR.blk.par p hp
    refine ⟨a1,hno p a2 a3,fun h=>a3 h.1,fun id2 b2 k2 g2 r2 e2=> ?_⟩
    rcases hget _ _ g2 with ⟨rfl,_⟩ | ⟨_,g2⟩
    ·rw [hG] at e2
     cases e2
     omega
    ·exact a4 id2 b2 k2 g2 r2 e2
  ·obtain ⟨p1,p2,p3⟩:=s.apart q b r' k q1 hw hGq
   refine ⟨hno _ p1 p2,fun h=>p2 h.1,fun d hd p hp=> ?_⟩
   obtain ⟨a1,a2,a3,a4⟩:=p3 d hd p hp
   refine ⟨a1,hno p a2 a3,fun h=>a3 h.1,fun id2 b2 k2 g2 r2 e2=> ?_⟩
   rcases hget _ _ g2 with ⟨rfl,_⟩ | ⟨_,g2⟩
   ·rw [hG] at e2
    cases e2
    exact a3 hR.blk.inN
   ·exact a4 id2 b2 k2 g2 r2 e2
 ·rcases hget _ _ hq with ⟨_,e⟩ | ⟨hne,hq⟩
  ·cases e
  ·exact absurd (rows_only rk hg hq) hne
 ·rcases hget _ _ g1 with ⟨_,rfl⟩ | ⟨hne,g1⟩
  ·cases r1
  ·exact absurd (rk.one _ _ _ _ g1 hg r1 rfl) hne
 ·rcases hget _ _ hq with ⟨rfl,rfl⟩ | ⟨_,hq⟩
  ·rw [hG] at hGq
   cases hGq
   exact hL.own _ ⟨q,sz,l,_,_,c,hg,hG,hR.blk.new, .inl rfl⟩
  ·exact hL.lw.blk q b r' k hq hw hGq
 ·obtain ⟨id2,sz2,l2,r2,k2,c2,g1,g2,g3,g4⟩:=hq
  rcases hget _ _ g1 with ⟨_,e⟩ | ⟨hne,g1⟩
  ·cases e
  ·exact absurd (rows_only rk hg g1) hne
 ·rcases hq with ⟨id2,b2,k2,g1,g2,g3⟩ | ⟨id2,sz2,l2,r2,k2,c2,g1,g2,g3,g4⟩
  ·rcases hget _ _ g1 with ⟨rfl,rfl⟩ | ⟨_,g1⟩
   ·rw [hG] at g3
    cases g3
    exact .inr (.inr ⟨id2,sz,l,_,_,c,hg,hG,hR.blk.new, .inl rfl⟩)
   ·exact .inr (.inl ⟨id2,b2,k2,g1,g2,g3⟩)
  ·rcases hget _ _ g1 with ⟨_,e⟩ | ⟨hne,g1⟩
   ·cases e
   ·exact absurd (rows_only rk hg g1) hne
 ·rcases hget _ _ hq with ⟨rfl,_⟩ | ⟨_,hq⟩
  ·exact ⟨_,hg⟩
  ·exact ⟨b,hq⟩
 ·rcases hx with hx | ⟨i,hi⟩
  ·exact .inl hx
  ·exact .inr (.inr (.inr ⟨id,sz,l,r,_,c,hg,hG,hR.blk.new, .inr ⟨i,hi⟩⟩))
end
end Go.Proofs.Ytpfploolkmcalaa.VM
end
section
namespace Go.Proofs.Ytpfploolkmcalaa.VM
open Go AM
set_option linter.unusedSectionVars false
set_option linter.unusedSimpArgs false
set_option linter.unusedVariables false
section
variable {F F' N N' N0:NS} {G G':GM} {st st':St} {h h':Hp} {R:Type} {z:Fz} (P:Program)
theorem RowsR.len{sz r:Nat}{l:List RowV}{c:AM.Blk}(hR:RowsR F N N0 G st h sz l r c) :l.length≤c.cells.length:=by
 rcases Nat.lt_or_ge c.cells.length l.length with hlt | hge
 ·obtain ⟨v,b1,_⟩:=hR.at_ _ _ (List.getElem?_eq_getElem hlt)
  rw [List.getElem?_eq_none (Nat.le_refl _)] at b1
  cases b1
 ·exact hge
theorem RowsR.one{sz r:Nat}{l:List RowV}{c:AM.Blk}(hR:RowsR F N N0 G st h sz l r c)(he:c.cells.length=l.length) :oneCells c.cells=true:=by
 unfold oneCells
 rw [List.all_eq_true]
 intro v hv
 obtain ⟨k,hk⟩:=List.mem_iff_getElem?.1 hv
 have hlt:k<l.length:=by
  rcases Nat.lt_or_ge k c.cells.length with h | h
  ·omega
  ·rw [List.getElem?_eq_none h] at hk; cases hk
 obtain ⟨v2,b1,b2⟩:=hR.at_ k _ (List.getElem?_eq_getElem hlt)
 rw [hk] at b1
 cases b1
 exact b2.ok
theorem row_trunc(s:Sm F N G st h)(rk:RowsOk N0 F N G st h){id sz:Nat}{l:List RowV}{r:Nat}{c:AM.Blk}(hg:st.blks.get id=some (.rows sz l))(hG:G id=some ⟨r, .arr 1 true l.length⟩)(hR:RowsR F N N0 G st h sz l r c) :
  RStep N0 F N G st h F N G st (h.write r {c with cells:=c.cells.take l.length} 0 [])∧RowsR F N N0 G st (h.write r {c with cells:=c.cells.take l.length} 0 []) sz l r {c with cells:=c.cells.take l.length,par:=[]}:=by
 have hlt:=(s.ok.new _ _ hR.blk.new).1
 have hsp:splice (c.cells.take l.length) 0 []=c.cells.take l.length:=by unfold splice; simp
 have hself:(h.write r {c with cells:=c.cells.take l.length} 0 []).new r=some {c with cells:=c.cells.take l.length,par:=[]}:=by
  rw [write_new,if_pos rfl]
  simp only [hsp]
 have hkeep:∀q,q ≠r→(F q∨N q∨NOwn G st q)→(h.write r {c with cells:=c.cells.take l.length} 0 []).new q=h.new q:=by
  intro q hq hN
  rw [write_new,if_neg hq,if_neg (fun hm=> ?_)]
  obtain ⟨_,h1,h2,h3⟩:=hR.blk.par q hm
  rcases hN with hN | hN | ⟨id,b,k,e1,e2,e3⟩
  ·exact h1 hN
  ·exact h2 hN
  ·exact h3 id b k e1 e2 e3
 have xe:Ext F N0 h (h.write r {c with cells:=c.cells.take l.length} 0 []):=by
  refine ⟨rfl,rfl,Nat.le_refl _,fun q hq=>⟨?_,rfl⟩,fun q hq=> ?_⟩
  ·refine hkeep q (fun e=> ?_) (hq.imp (fun h=>h) fun h=> .inl (rk.sub q h))
   subst e
   exact hq.elim hR.blk.noF hR.blk.no0
  ·rw [write_new,if_neg (by omega)]
   split
   ·cases hq2:h.new q with
    | none=>rfl
    | some d=>have:=(s.ok.new _ _ hq2).1; omega
   ·rfl
 have hz:Fz.le (fz F h) (fz F (h.write r {c with cells:=c.cells.take l.length} 0 [])):=xe.fz fun _ h=>h
 have hnr:∀q,NOwn G st q→q ≠r:=by
  rintro q ⟨id,b,k,e1,e2,e3⟩ e
  subst e
  exact s.unnamed hR.blk.inN hR.blk.noF id b k e1 e2 e3
 have hcut:∀j,j<l.length→(c.cells.take l.length)[j]? =c.cells[j]? :=fun j hj=>by rw [List.getElem?_take,if_pos hj]
 have hjl:∀(j:Nat) (x:RowV),l[j]? =some x→j<l.length:=fun j x hj=>by
  rcases Nat.lt_or_ge j l.length with h | h
  ·exact h
  ·rw [List.getElem?_eq_none h] at hj; cases hj
 have hadr:∀j q,rowAddr l (c.cells.take l.length) j q→rowAddr l c.cells j q:=fun j q ⟨t,n,e1,e2⟩=>⟨t,n,e1,by rw [←hcut j (hjl _ _ e1)]; exact e2⟩
 have hR1:RowsR F N N0 G st (h.write r {c with cells:=c.cells.take l.length} 0 []) sz l r {c with cells:=c.cells.take l.length,par:=[]}:=by
  refine ⟨⟨hself,hR.blk.sz,hR.blk.rw,hR.blk.inN,hR.blk.no0,hR.blk.noF,fun p hp=>by cases hp⟩,fun j x hj=> ?_,fun j q hq=> ?_⟩
  ·obtain ⟨v,a,b⟩:=hR.at_ j x hj
   refine ⟨v,(hcut j (hjl j x hj)).trans a,b.to hz fun q2 d n e1 ⟨t,e2⟩ hb=>hb.to ((hkeep q2 (hR.apart j q2 ⟨t,n,by rw [hj,e2],by rw [a,e1]⟩).1 (.inr (.inl hb.inN))).trans hb.new) hb.inN hb.noF fun p _ hp=>hp⟩
  ·obtain ⟨a,b⟩:=hR.apart j q (hadr j q hq)
   exact ⟨a,fun j2 h2=>b j2 (hadr j2 q h2)⟩
 have hsm:Sm F N G st (h.write r {c with cells:=c.cells.take l.length} 0 []):=by
  refine ⟨ok_write s.ok hR.blk.new 0 [],s.fLt,fun q b hq=> ?_,s.inj,fun q b r' k hq hw hGq=> ?_,s.gUsed⟩
  ·obtain ⟨r2,hr2,hbr⟩:=s.blk q b hq
   refine ⟨r2,hr2, ?_⟩
   have hbr':BR F N0 G h r2 b:=hbr
   exact hbr'.keep (fun hre=>⟨hkeep r2 (hnr r2 ⟨q,b,_,hq,hre,hr2⟩) (.inr (.inr ⟨q,b,_,hq,hre,hr2⟩)),rfl⟩) xe (fun _ h=>h) (LeG.refl _)
  ·obtain ⟨p1,p2,p3⟩:=s.apart q b r' k hq hw hGq
   refine ⟨p1,p2,fun d hd p hp=> ?_⟩
   have hn:NOwn G st r':=⟨q,b,k,hq,wr_real hw,hGq⟩
   rw [hkeep r' (hnr r' hn) (.inr (.inr hn))] at hd
   exact p3 d hd p hp
 have hrk:RowsOk N0 F N G st (h.write r {c with cells:=c.cells.take l.length} 0 []):=by
  refine ⟨rk.sub,fun q sz2 l2 hq=> ?_,rk.one⟩
  have:=rows_only rk hg hq
  subst this
  rw [hg] at hq
  cases hq
  exact ⟨r,_,hG,hR1⟩
 have hown:∀q,ROwn G st (h.write r {c with cells:=c.cells.take l.length} 0 []) q→ROwn G st h q:=by
  rintro q ⟨id2,sz2,l2,r2,k2,c2,g1,g2,g3,g4⟩
  have:=rows_only rk hg g1
  subst this
  have hg2:=hg
  rw [hg2] at g1
  cases g1
  rw [hG] at g2
  cases g2
  rw [hself] at g3
  cases g3
  exact ⟨id2,sz,l,r,_,c,hg,hG,hR.blk.new,g4.imp (fun h=>h) fun ⟨j,hj⟩=>⟨j,hadr j q hj⟩⟩
 have hrN:∀q,ROwn G st h q→N q:=by
  rintro q ⟨id2,sz2,l2,r2,k2,c2,g1,g2,g3,g4⟩
  have:=rows_only rk hg g1
  subst this
  have hg2:=hg
  rw [hg2] at g1
  cases g1
  rw [hG] at g2
  cases g2
  rw [hR.blk.new] at g3
  cases g3
  rcases g4 with rfl | ⟨j,t3,n3,e4,e5⟩
  ·exact hR.blk.inN
  ·obtain ⟨v3,b1,b2⟩:=hR.at_ j _ e4
   rw [e5] at b1
   cases b1
   rcases b2 with ⟨h,_⟩ | ⟨_,q4,d4,e6,hb4,_⟩
   ·cases h
   ·cases e6
    exact hb4.inN
 have hpar:∀L q,(∀d,h.new q=some d→∀p∈d.par,L≤p)→(N q∨NOwn G st q)→∀d,(h.write r {c with cells:=c.cells.take l.length} 0 []).new q=some d→∀p∈d.par,L≤p:=by
  intro L q h1 h2 d hd p hp
  by_cases e:q=r
  ·subst e
   rw [hself] at hd
   cases hd
   cases hp
  ·rw [hkeep q e (.inr h2)] at hd
   exact h1 d hd p hp
 refine ⟨⟨hsm,hrk,fun _ h=>h,LeG.refl _,xe,fun L hL=>⟨⟨?_,hL.lw.next,fun q2 b r' k hq hw hGq=> ?_⟩,fun q2 hq=> ?_⟩,fun q2 hq=> .inr (hq.imp (fun h=>h) (hown q2)),fun q2 b hq _=>⟨b,hq⟩,fun _ h=> .inl h⟩,hR1⟩
 ·obtain ⟨h1,h2⟩:=hL.own r ⟨id,sz,l,r,_,c,hg,hG,hR.blk.new, .inl rfl⟩
  have:=fold_min_ge c.par r h1 (h2 c hR.blk.new)
  have:=hL.lw.low
  show L≤min h.low (c.par.foldl min r)
  omega
 ·obtain ⟨a1,a2⟩:=hL.lw.blk q2 b r' k hq hw hGq
  exact ⟨a1,hpar L r' a2 (.inr ⟨q2,b,k,hq,wr_real hw,hGq⟩)⟩
 ·obtain ⟨a1,a2⟩:=hL.own q2 (hown q2 hq)
  exact ⟨a1,hpar L q2 a2 (.inl (hrN q2 (hown q2 hq)))⟩
theorem row_grow(s:Sm F N G st h)(rk:RowsOk N0 F N G st h){id id' sz:Nat}{l:List RowV}{r:Nat}{c:AM.Blk}(hg:st.blks.get id=some (.rows sz l))(hG:G id=some ⟨r, .arr 1 true l.length⟩)(hR:RowsR F N N0 G st h sz l r c)(hlen:c.cells.length=l.length)
  {xs:List T} {vs:List Value} (hvs:Cells (fz F h) 1 xs vs) (i1:500≤id') (i2:id'∉st.used):
  ∃N' G',RStep N0 F N G st h F N' G' ⟨(id', .rows sz (l++xs.map rowOf))::st.blks.del id,id'::st.used⟩ ((h.fence r).alloc (c.cells++vs) 1 (r::c.par))∧G' id'=some ⟨h.next, .arr 1 true (l++xs.map rowOf).length⟩:=by
 have hle:=setG_le s i1 i2 ⟨h.next, .arr 1 true (l++xs.map rowOf).length⟩
 have hrl:=s.ok.new _ _ hR.blk.new
 have hnew:∀q,((h.fence r).alloc (c.cells++vs) 1 (r::c.par)).new q=if q=h.next then some ⟨c.cells++vs,1,true,r::c.par⟩ else if q=r then (h.new q).map (fun b=>{b with rw:=false}) else h.new q:=fun q=>by
  rw [alloc_new,seal_new]; rfl
 have hlt0:∀q,N0 q→q<h.next:=fun q hq=>s.fLt q (.inr (rk.sub q hq))
 have hsame:∀q,q<h.next→q ≠r→((h.fence r).alloc (c.cells++vs) 1 (r::c.par)).new q=h.new q:=fun q h1 h2=>by rw [hnew,if_neg (by omega),if_neg h2]
 have xe:Ext F N0 h ((h.fence r).alloc (c.cells++vs) 1 (r::c.par)):=by
  refine ⟨rfl,rfl,Nat.le_succ _,fun q hq=>⟨hsame q ?_ ?_,rfl⟩,fun q hq=>hsame q (by have:=s.ok.next; omega) (by omega)⟩
  ·exact hq.elim (fun h=>s.fLt q (.inl h)) (hlt0 q)
  ·rintro rfl
   exact hq.elim hR.blk.noF hR.blk.no0
 have hz:=xe.fz (F':=F) fun _ h=>h
 have hdel:∀q b,(st.blks.del id).get q=some b→q ≠id∧st.blks.get q=some b:=by
  intro q b hq
  rw [get_del] at hq
  split at hq
  ·cases hq
  ·rename_i e; exact ⟨e,hq⟩
 have hget:∀q b,Bs.get ((id', .rows sz (l++xs.map rowOf))::st.blks.del id) q=some b→(q=id'∧b= .rows sz (l++xs.map rowOf))∨(q ≠id'∧q ≠id∧st.blks.get q=some b):=by
  intro q b hq
  rw [get_cons] at hq
  split at hq
  ·rename_i e; cases hq; exact .inl ⟨e,rfl⟩
  ·rename_i e
   obtain ⟨e2,hq⟩:=hdel q b hq
   exact .inr ⟨e,e2,hq⟩
 have hre:∀q b,Bs.get ((id', .rows sz (l++xs.map rowOf))::st.blks.del id) q=some b→real b=true→q ≠id'∧st.blks.get q=some b:=by
  intro q b hq hr
  rcases hget q b hq with ⟨_,rfl⟩ | ⟨a,_,c⟩
  ·cases hr
  ·exact ⟨a,c⟩
 have hold:∀q g,q ≠id'→setG G id' ⟨h.next, .arr 1 true (l++xs.map rowOf).length⟩ q=some g→G q=some g:=fun q g hq he=>by
  unfold setG at he
  rw [if_neg hq] at he
  exact he
 have hnr:∀q b k,st.blks.get q=some b→real b=true→G q ≠some ⟨r,k⟩:=s.unnamed hR.blk.inN hR.blk.noF
 have hhid:∀p,p<h.next→HidB F N G st p→HidB F (fun x=>(N x∧x ≠r)∨x=h.next) (setG G id' ⟨h.next, .arr 1 true (l++xs.map rowOf).length⟩) ⟨(id', .rows sz (l++xs.map rowOf))::st.blks.del id,id'::st.used⟩ p:=by
  rintro p hp ⟨h1,h2,h3⟩
  refine ⟨h1,fun h=>h.elim (fun h=>h2 h.1) (fun e=>by omega),fun id2 b2 k2 g2 r2 e2=> ?_⟩
  obtain ⟨m1,m2⟩:=hre _ _ g2 r2
  exact h3 id2 b2 k2 m2 r2 (hold _ _ m1 e2)
 have hadr:∀j q,rowAddr (l++xs.map rowOf) (c.cells++vs) j q→rowAddr l c.cells j q:=by
  rintro j q ⟨t,n,e1,e2⟩
  rcases Nat.lt_or_ge j l.length with hj | hj
  ·rw [List.getElem?_append_left hj] at e1
   rw [List.getElem?_append_left (by omega)] at e2
   exact ⟨t,n,e1,e2⟩
  ·rw [List.getElem?_append_right hj,List.getElem?_map] at e1
   obtain ⟨x,_,h2⟩:=Option.map_eq_some_iff.1 e1
   rcases rowOf_cases x with ⟨_,_,e⟩ | ⟨_,_,_,_,e⟩ | e | ⟨e,_⟩ <;>rw [e] at h2 <;>cases h2
 have hblk:RBlk F (fun x=>(N x∧x ≠r)∨x=h.next) N0 (setG G id' ⟨h.next, .arr 1 true (l++xs.map rowOf).length⟩) ⟨(id', .rows sz (l++xs.map rowOf))::st.blks.del id,id'::st.used⟩ ((h.fence r).alloc (c.cells++vs) 1 (r::c.par)) 1 h.next ⟨c.cells++vs,1,true,r::c.par⟩:=by
  refine ⟨by rw [hnew,if_pos rfl],rfl,rfl, .inr rfl,fun h0=> ?_,fun hf=> ?_,fun p hp=> ?_⟩
  ·have:=hlt0 _ h0; omega
  ·have:=s.fLt _ (.inl hf); omega
  ·rcases (by simpa using hp:p=r∨p∈c.par) with rfl | hp'
   ·refine ⟨hrl.2,hR.blk.noF,fun h=>h.elim (fun h=>h.2 rfl) (fun e=>by omega),fun id2 b2 k2 g2 r2 e2=> ?_⟩
    obtain ⟨m1,m2⟩:=hre _ _ g2 r2
    exact hnr _ _ k2 m2 r2 (hold _ _ m1 e2)
   ·obtain ⟨a1,a2⟩:=hR.blk.par p hp'
    exact ⟨by omega,hhid p (by omega) a2⟩
 have hR1:RowsR F (fun x=>(N x∧x ≠r)∨x=h.next) N0 (setG G id' ⟨h.next, .arr 1 true (l++xs.map rowOf).length⟩) ⟨(id', .rows sz (l++xs.map rowOf))::st.blks.del id,id'::st.used⟩ ((h.fence r).alloc (c.cells++vs) 1 (r::c.par)) sz (l++xs.map rowOf) h.next ⟨c.cells++vs,1,true,r::c.par⟩:=by
  refine ⟨hblk,fun j x hj=> ?_,fun j q hq=> ?_⟩
  ·rcases Nat.lt_or_ge j l.length with hjl | hjl
   ·rw [List.getElem?_append_left hjl] at hj
    obtain ⟨v,a,b⟩:=hR.at_ j x hj
    refine ⟨v,by rw [List.getElem?_append_left (by omega)]; exact a,b.to hz fun q2 d n e1 ⟨t,e2⟩ hb=> ?_⟩
    have hne:=(hR.apart j q2 ⟨t,n,by rw [hj,e2],by rw [a,e1]⟩).1
    have hq2:=(s.ok.new _ _ hb.new).2
    exact hb.to ((hsame q2 hq2 hne).trans hb.new) (.inl ⟨hb.inN,hne⟩) hb.noF fun p hp hh=>hhid p (by omega) hh
   ·rw [List.getElem?_append_right hjl,List.getElem?_map] at hj
    obtain ⟨x0,hx0,rfl⟩:=Option.map_eq_some_iff.1 hj
    have hx1:=hvs.each x0 (List.mem_of_getElem? hx0)
    obtain ⟨y0,hy0⟩:∃y0,x0.cells[0]? =some y0:=⟨_,List.getElem?_eq_getElem (by omega)⟩
    obtain ⟨v,b1,b2⟩:=hvs.at_ _ x0 0 y0 hx0 hy0
    rw [Nat.mul_one,Nat.add_zero] at b1
    have b3:=b2.mono hz
    refine ⟨v,by rw [List.getElem?_append_right (by omega),hlen]; exact b1, ?_⟩
    rcases rowOf_cases x0 with ⟨s0,e1,e⟩ | ⟨s0,nn0,l0,e1,e⟩ | e | ⟨e,e1⟩ <;>rw [e]
    ·subst e1
     cases hy0
     cases b3
     exact .inl ⟨rfl,rfl,rfl⟩
    ·have:y0=x0:=by subst e1; cases hy0; rfl
     rw [this] at b3
     exact b3
    ·exact sr_okCell b3
    ·have:y0=x0:=by rw [e1] at hy0; cases hy0; rfl
     rw [this] at b3
     exact b3
  ·obtain ⟨a,b⟩:=hR.apart j q (hadr j q hq)
   obtain ⟨t3,n3,e4,e5⟩:=hadr j q hq
   refine ⟨fun e=> ?_,fun j2 h2=>b j2 (hadr j2 q h2)⟩
   obtain ⟨v3,b1,b2⟩:=hR.at_ j _ e4
   rw [e5] at b1
   cases b1
   rcases b2 with ⟨h,_⟩ | ⟨_,q4,d4,e6,hb4,_⟩
   ·cases h
   ·cases e6
    have:=(s.ok.new _ _ hb4.new).2
    omega
 have hown:∀q,ROwn (setG G id' ⟨h.next, .arr 1 true (l++xs.map rowOf).length⟩) ⟨(id', .rows sz (l++xs.map rowOf))::st.blks.del id,id'::st.used⟩ ((h.fence r).alloc (c.cells++vs) 1 (r::c.par)) q→q=h.next∨(q<h.next∧q ≠r∧ROwn G st h q):=by
  rintro q ⟨id2,sz2,l2,r2,k2,c2,g1,g2,g3,g4⟩
  rcases hget _ _ g1 with ⟨rfl,e⟩ | ⟨_,hne,g1⟩
  ·cases e
   rw [setG_self] at g2
   cases g2
   rw [hnew,if_pos rfl] at g3
   cases g3
   rcases g4 with h | ⟨j,hj⟩
   ·exact .inl h
   ·have hj:=hadr j q hj
    refine .inr ⟨?_,(hR.apart j q hj).1,id,sz,l,r,_,c,hg,hG,hR.blk.new, .inr ⟨j,hj⟩⟩
    obtain ⟨t3,n3,e4,e5⟩:=hj
    obtain ⟨v3,b1,b2⟩:=hR.at_ j _ e4
    rw [e5] at b1
    cases b1
    rcases b2 with ⟨h,_⟩ | ⟨_,q4,d4,e6,hb4,_⟩
    ·cases h
    ·cases e6
     exact (s.ok.new _ _ hb4.new).2
  ·exact absurd (rows_only rk hg g1) hne
 refine ⟨fun x=>(N x∧x ≠r)∨x=h.next,setG G id' ⟨h.next, .arr 1 true (l++xs.map rowOf).length⟩,⟨⟨ok_alloc (ok_seal s.ok r) _ _ _, ?_,fun q b hq=> ?_,fun id1 b1 id2 b2 r' k1 k2 g1 g2 r1 r2 e1 e2=> ?_,fun q b r' k hq hw hGq=> ?_,fun q g hq=> ?_⟩,⟨fun x hx=> .inl ⟨rk.sub x hx,fun e=>hR.blk.no0 (e▸hx)⟩,fun q sz2 l2 hq=> ?_,fun id1 b1 id2 b2 g1 g2 r1 r2=> ?_⟩,fun _ h=>h,hle,xe,fun L hL=>⟨⟨hL.lw.low,by have:=hL.lw.next; show L≤h.next+1; omega,fun q b r' k hq hw hGq=> ?_⟩,fun q hq=> ?_⟩,fun q hq=> ?_,fun q b hq hlt=> ?_,fun _ h=> .inl h⟩,setG_self _ _ _⟩
 ·rintro x (hx | hx | rfl)
  ·have:=s.fLt x (.inl hx); show x<h.next+1; omega
  ·have:=s.fLt x (.inr hx.1); show x<h.next+1; omega
  ·exact Nat.lt_succ_self _
 ·rcases hget _ _ hq with ⟨rfl,rfl⟩ | ⟨n1,_,hq⟩
  ·exact ⟨h.next,setG_self _ _ _,trivial⟩
  ·obtain ⟨r2,hr2,hbr⟩:=s.blk q b hq
   refine ⟨r2,hle _ _ hr2, ?_⟩
   have hbr':BR F N0 G h r2 b:=hbr
   exact hbr'.keep (fun hr=>⟨hsame r2 (s.lt hq hr hr2).2 (fun e=>hnr q b _ hq hr (e▸hr2)),rfl⟩) xe (fun _ h=>h) hle
 ·obtain ⟨m1,q1⟩:=hre _ _ g1 r1
  obtain ⟨m2,q2⟩:=hre _ _ g2 r2
  exact s.inj _ _ _ _ _ _ _ q1 q2 r1 r2 (hold _ _ m1 e1) (hold _ _ m2 e2)
 ·obtain ⟨m1,q1⟩:=hre _ _ hq (wr_real hw)
  have e:=hold _ _ m1 hGq
  obtain ⟨p1,p2,p3⟩:=s.apart q b r' k q1 hw e
  have hlt:=(s.lt q1 (wr_real hw) e).2
  refine ⟨p1,fun h=>h.elim (fun h=>p2 h.1) (fun e=>by omega),fun d hd p hp=> ?_⟩
  rw [hsame r' hlt (fun e2=>hnr q b k q1 (wr_real hw) (e2▸e))] at hd
  obtain ⟨a1,a2,a3,a4⟩:=p3 d hd p hp
  exact ⟨a1,a2,fun h=>h.elim (fun h=>a3 h.1) (fun e=>by omega),fun id2 b2 k2 g2 r2 e2=>a4 id2 b2 k2 (hre _ _ g2 r2).2 r2 (hold _ _ (hre _ _ g2 r2).1 e2)⟩
 ·by_cases e:q=id'
  ·subst e; exact .inr (List.mem_cons_self ..)
  ·exact (s.gUsed q g (hold _ _ e hq)).imp (fun h=>h) (List.mem_cons_of_mem _)
 ·rcases hget _ _ hq with ⟨rfl,e⟩ | ⟨_,hne,hq⟩
  ·cases e
   exact ⟨h.next,_,setG_self _ _ _,hR1⟩
  ·exact absurd (rows_only rk hg hq) hne
 ·have hid:∀q b,Bs.get ((id', .rows sz (l++xs.map rowOf))::st.blks.del id) q=some b→isRows b=true→q=id':=by
   intro q b hq hr
   rcases hget _ _ hq with ⟨e,_⟩ | ⟨_,hne,hq⟩
   ·exact e
   ·exact absurd (rk.one _ _ _ _ hq hg hr rfl) hne
  exact (hid _ _ g1 r1).trans (hid _ _ g2 r2).symm
 ·obtain ⟨m1,q1⟩:=hre _ _ hq (wr_real hw)
  have e:=hold _ _ m1 hGq
  obtain ⟨a1,a2⟩:=hL.lw.blk q b r' k q1 hw e
  exact ⟨a1,fun d hd=>a2 d (by rw [←hsame r' (s.lt q1 (wr_real hw) e).2 (fun e2=>hnr q b k q1 (wr_real hw) (e2▸e))]; exact hd)⟩
 ·rcases hown q hq with rfl | ⟨h1,h2,h3⟩
  ·refine ⟨hL.lw.next,fun d hd p hp=> ?_⟩
   rw [hnew,if_pos rfl] at hd
   cases hd
   obtain ⟨b1,b2⟩:=hL.own r ⟨id,sz,l,r,_,c,hg,hG,hR.blk.new, .inl rfl⟩
   rcases (by simpa using hp:p=r∨p∈c.par) with rfl | hp'
   ·exact b1
   ·exact b2 c hR.blk.new p hp'
  ·obtain ⟨a1,a2⟩:=hL.own q h3
   exact ⟨a1,fun d hd=>a2 d (by rw [←hsame q h1 h2]; exact hd)⟩
 ·rcases hq with ⟨id2,b2,k2,g1,g2,g3⟩ | hq
  ·obtain ⟨m1,q1⟩:=hre _ _ g1 g2
   exact .inr (.inl ⟨id2,b2,k2,q1,g2,hold _ _ m1 g3⟩)
  ·rcases hown q hq with rfl | ⟨_,_,h3⟩
   ·exact .inl (Nat.le_refl _)
   ·exact .inr (.inr h3)
 ·rcases hget _ _ hq with ⟨rfl,_⟩ | ⟨_,_,hq⟩
  ·omega
  ·exact ⟨b,hq⟩
end
end Go.Proofs.Ytpfploolkmcalaa.VM
end
section
namespace Go.Proofs.Ytpfploolkmcalaa.VM
open Go AM
set_option linter.unusedSectionVars false
set_option linter.unusedSimpArgs false
set_option linter.unusedVariables false
section
variable {F F' N N' N0:NS} {G G':GM} {st st':St} {h h':Hp} {R:Type} {z:Fz} (P:Program)
variable {HA:AM.Hint} {call:CallF} {callA:FuncId→List Value→Hp→Option (Value×Hp)} {e:Env} {eA:AM.Env} {o:Oper} {K:V→St→Option R} {q:R} {H:Hint}
def OpROK(HA:AM.Hint)(callA:FuncId→List Value→Hp→Option (Value×Hp))(N0 F N:NS)(G:GM)(st:St)(h:Hp)(eA:AM.Env)(o:Oper)(K:V→St→Option R)(q:R) :Prop:=
 ∃v st' F' N' G' u h',K v st'=some q∧RStep N0 F N G st h F' N' G' st' h'∧VR (fz F' h') G' v u∧∀(S:Type) (KA:Value→Hp→Option S),opC P HA callA eA.eval o h KA=KA u h'
theorem rowsId_some{bs:Bs}{v:V}{r:Nat×Nat×List RowV}(h:rowsId bs v=some r) :(v= .buf r.1∨∃i off,v= .ptr r.1 i off)∧bs.get r.1=some (.rows r.2.1 r.2.2):=by
 unfold rowsId at h
 split at h
 ·split at h
  ·rename_i hb
   split at h
   ·cases h; exact ⟨.inl rfl,hb⟩
   ·cases h
  ·cases h
 ·split at h
  ·rename_i hb
   split at h
   ·cases h; exact ⟨.inr ⟨_,_,rfl⟩,hb⟩
   ·cases h
  ·cases h
 ·cases h
theorem ptr_rows(rk:RowsOk N0 F N G st h){id sz i off:Nat}{l:List RowV}(hg:st.blks.get id=some (.rows sz l)){u:Value}(hv:VR z G (.ptr id i off) u) :∃r c,G id=some ⟨r, .arr 1 true l.length⟩∧RowsR F N N0 G st h sz l r c∧u= .pointer (some ⟨r,i+off,none⟩):=by
 obtain ⟨r,c,hG,hR⟩:=rk.blk id sz l hg
 cases hv with
 | ptrA h=>rw [hG] at h; cases h; exact ⟨r,c,hG,hR,by rw [Nat.mul_one]⟩
 | ptrV h=>rw [hG] at h; cases h
 | ptrW h=>rw [hG] at h; cases h
theorem rowLoad_ok(s:Sm F N G st h)(rk:RowsOk N0 F N G st h){id sz i off id':Nat}{l:List RowV}(i0:True)(hg:st.blks.get id=some (.rows sz l)){u:Value}(hv:VR (fz F h) G (.ptr id i off) u){t:TypeId}(hk:rowLoad P t id' st id sz l i off K=some q) :
  ∃v st' N' G' w ad,u= .pointer (some ad)∧K v st'=some q∧RStep N0 F N G st h F N' G' st' h∧VR (fz F h) G' v w∧∀(S:Type) (KA:Value→Option S),loadC P h t ad KA=KA w:=by
 unfold rowLoad at hk
 obtain ⟨p,zv,ti,hp,hk⟩:=tpC_some P hk
 split at hk
 ·rename_i p1
  split at hk
  ·rename_i s1
   obtain ⟨h1,hk1⟩:=needC_some hk
   simp only [Bool.and_eq_true,beq_iff_eq] at h1
   obtain ⟨h3,h4⟩:=h1
   subst h3 h4
   clear hk
   unfold rowC at hk1
   split at hk1
   ·rename_i x hx
    split at hk1
    ·rename_i nn t0
     obtain ⟨i1,i2,hk2⟩:=mint_some hk1
     obtain ⟨N',G',r,c,v,hG,hc,hcell,x1,hvr⟩:=row_out s rk hg hx i1 i2
     obtain ⟨r2,c2,hG2,_,hu⟩:=ptr_rows rk hg hv
     rw [hG] at hG2
     cases hG2
     refine ⟨_,_,N',G',v,_,hu,hk2,x1,hvr,fun S KA=> ?_⟩
     exact loadC_one P hp (by rw [cell_of hc,Nat.add_zero]; exact hcell) (fun R y K hy=>like1_V (v:= .buf id') hy (show ∃s,TP1.list s1=TP1.list s from ⟨s1,rfl⟩) hvr K) KA
    ·cases hk1
   ·cases hk1
  ·cases hk
 ·cases hk
theorem rowStore_ok(s:Sm F N G st h)(rk:RowsOk N0 F N G st h){id sz i off:Nat}{l:List RowV}(hg:st.blks.get id=some (.rows sz l)){u w:Value}{x:V}(hv:VR (fz F h) G (.ptr id i off) u)(hx:VR (fz F h) G x w){t:TypeId}(hk:rowStore P t st id sz l i off x K=some q) :
  ∃st' N' h' ad ti,u= .pointer (some ad)∧K (.tup []) st'=some q∧RStep N0 F N G st h F N' G st' h'∧P.info? t=some ti∧w.cells.size=ti.size∧∀(S:Type) (KA:Hp→Option S),h.stC ad w.cells.toList KA=KA h':=by
 unfold rowStore at hk
 obtain ⟨ti,hti,hk1⟩:=sizeC_some P hk
 clear hk
 obtain ⟨h1,hk⟩:=needC_some hk1
 clear hk1
 simp only [Bool.and_eq_true,beq_iff_eq,decide_eq_true_eq] at h1
 obtain ⟨⟨h5,h6⟩,h2⟩:=h1
 subst h6
 split at hk
 ·rename_i id'
  split at hk
  ·rename_i b hb
   split at hk
   ·rename_i own s' nn c0
    obtain ⟨h3,hk1⟩:=needC_some hk
    simp only [Bool.and_eq_true,beq_iff_eq] at h3
    obtain ⟨h7,h8⟩:=h3
    subst h7 h8
    obtain ⟨r,c,hG,hR,hu⟩:=ptr_rows rk hg hv
    obtain ⟨N',x1⟩:=row_in s rk hg hG hR h2 hb hx
    have hw:∃a n k,w= .slice a n k:=by
     rcases s.arr hb hx with ⟨_,_,rfl⟩ | ⟨_,r',c',_,rfl,_⟩ <;>exact ⟨_,_,_,rfl⟩
    obtain ⟨a,n,k,rfl⟩:=hw
    refine ⟨_,N',_,_,ti,hu,hk1,x1,hti,by rw [h5]; rfl,fun S KA=> ?_⟩
    have:=hR.len
    exact stC_to hR.blk.new hR.blk.rw (by show i+0+1≤_; omega) rfl KA
   ·cases hk
  ·cases hk
 ·cases hk
theorem toRows_ok(s:Sm F N G st h)(rk:RowsOk N0 F N G st h){v:V}{u:Value}(hv:VR (fz F h) G v u){t:TypeId}(hk:toRows P t st v K=some q) :∃st' N',K v st'=some q∧RStep N0 F N G st h F N' G st' h:=by
 unfold toRows at hk
 obtain ⟨e1,he1,hk1⟩:=elemC_some P hk
 clear hk
 obtain ⟨e2,he2,hk2⟩:=elemC_some P hk1
 clear hk1
 obtain ⟨ti,hti,hk⟩:=sizeC_some P hk2
 clear hk2
 split at hk
 ·rename_i id
  split at hk
  ·rename_i b hb
   split at hk
   ·rename_i own sz nn l
    obtain ⟨h1,hk1⟩:=needC_some hk
    simp only [Bool.and_eq_true,beq_iff_eq] at h1
    obtain ⟨⟨⟨h1,h2⟩,h3⟩,h4⟩:=h1
    subst h1 h2 h3
    obtain ⟨r,hG,_⟩:=s.blk id _ hb
    obtain ⟨N',x1⟩:=rows_of s rk hb hG h4 ti.size
    exact ⟨_,N',hk1,x1⟩
   ·cases hk
  ·cases hk
 ·cases hk
theorem rowApp_ok(s:Sm F N G st h)(rk:RowsOk N0 F N G st h){id sz id':Nat}{l:List RowV}(hg:st.blks.get id=some (.rows sz l)){u w:Value}{x:V}(hv:VR (fz F h) G (.buf id) u)(hx:VR (fz F h) G x w){ts:List TypeId}(hk:rowApp P id' ts x st id sz l K=some q) :
  ∃v st' N' G' y h',K v st'=some q∧RStep N0 F N G st h F N' G' st' h'∧VR (fz F h') G' v y∧∀(S:Type) (KA:Value→Hp→Option S),appendC P ts [u,w] h KA=KA y h':=by
 unfold rowApp at hk
 split at hk
 ·rename_i t tx
  obtain ⟨e,he,hk1⟩:=elemC_some P hk
  clear hk
  obtain ⟨ti,hti,hk2⟩:=sizeC_some P hk1
  clear hk1
  obtain ⟨ti2,zv,hti2,hz1,hz2,hk1⟩:=zeroC_some P hk2
  clear hk2
  obtain ⟨h1,hk2⟩:=needC_some hk1
  clear hk1
  rw [hti] at hti2
  cases hti2
  simp only [hti] at hk2
  split at hk2
  ·rename_i e2 htx
   obtain ⟨xs,cs,hk3,hcs,hshape,hsrc⟩:=srcV_ok s (Fz.le_refl _) hx hk2
   rcases hshape with ⟨_,a2,c2,rfl⟩ | ⟨hbad,_⟩
   ·obtain ⟨h2,hk4⟩:=needC_some hk3
    simp only [Bool.and_eq_true,beq_iff_eq,decide_eq_true_eq,Bool.not_eq_true',List.isEmpty_eq_false_iff] at h2
    obtain ⟨⟨⟨h2,hne⟩,h3⟩,h4⟩:=h2
    obtain ⟨i1,i2,hk5⟩:=mint_some hk4
    obtain ⟨r,c,hG,hR⟩:=rk.blk id sz l hg
    have hu:u= .slice (some ⟨r,0,none⟩) l.length 0:=by
     cases hv with
     | bufNil h=>rw [hG] at h; cases h
     | buf h=>rw [hG] at h; cases h; rfl
    subst hu
    have hpos:0<xs.length:=List.length_pos_iff.2 hne
    have e0:decide (xs.length=0)=false:=decide_eq_false (by omega)
    rw [h2] at hcs hsrc
    obtain ⟨hcs1,hcs2⟩:=hcs
    have hone:=hcs1.one hcs2
    have happ:∀(S:Type) (KA:Value→Hp→Option S),appendC P [t,tx] [.slice (some ⟨r,0,none⟩) l.length 0, .slice a2 xs.length c2] h KA=growC h 1 ti.bytes (some ⟨r,0,none⟩) l.length 0 xs.length cs KA:=fun S KA=>by
     unfold appendC
     simp only [elemC_to P he,sizeC_to P hti,zeroC_to P hti hz1 hz2,h1,needC,cond_true,hti,htx,asSliceC]
     rw [h2,hsrc _ _ _ (Nat.le_refl _),List.take_of_length_le (by rw [hcs2]; exact Nat.le_refl _)]
    have fin:∀{h0:Hp} {c0:AM.Blk},RStep N0 F N G st h F N G st h0→RowsR F N N0 G st h0 sz l r c0→c0.cells.length=l.length→h0.next=h.next→prepG h 1 (some ⟨r,0,none⟩) l.length xs.length=h0→
      ∃v st' N' G' y h',K v st'=some q∧RStep N0 F N G st h F N' G' st' h'∧VR (fz F h') G' v y∧∀(S:Type) (KA:Value→Hp→Option S),appendC P [t,tx] [.slice (some ⟨r,0,none⟩) l.length 0, .slice a2 xs.length c2] h KA=KA y h':=by
     intro h0 c0 x0 hR0 hl0 hn0 hp0
     obtain ⟨N',G',x1,hG'⟩:=row_grow x0.sm x0.rk hg hG hR0 hl0 (hcs1.mono x0.le) i1 i2
     refine ⟨_,_,N',G', .slice (some ⟨h0.next,0,none⟩) (l.length+xs.length) 0,_,hk5,x0.trans x1, ?_,fun S KA=> ?_⟩
     ·have:=VR.buf (z:=fz F ((h0.fence r).alloc (c0.cells++cs) 1 (r::c0.par))) hG'
      rw [List.length_append,List.length_map] at this
      exact this
     ·rw [happ]
      unfold growC growT
      rw [hp0]
      unfold growT0 needC
      have e1:oneCells c0.cells=true:=hR0.one hl0
      simp [e0,h3,h4,hcs2,hone,hne,hR0.blk.new,hR0.blk.sz,hR0.blk.rw,hl0,e1]
    have hb:=(s.ok.new _ _ hR.blk.new).1
    rcases Nat.lt_or_ge l.length c.cells.length with hlt | hge
    ·obtain ⟨x0,hR0⟩:=row_trunc s rk hg hG hR
     refine fin x0 hR0 (by simp; omega) rfl ?_
     rw [prepG_cut (ad:=⟨r,0,none⟩) hpos hR.blk.new hR.blk.rw (by show 0+l.length*1<_; omega)]
     simp only [Nat.mul_one,Nat.zero_add]
    ·have hle:=hR.len
     have hl0:c.cells.length=l.length:=by omega
     exact fin (RStep.refl s rk) hR hl0 rfl (prepG_full (b:=c) hR.blk.new (by show 0+_=_; omega))
   ·cases hbad
  ·cases hk2
 ·cases hk
theorem opX_ok(heq:HA.eqt=H.eqt)(hc:CallOKV call callA)(s:Sm F N G st h)(rk:RowsOk N0 F N G st h)(he:EnvR (fz F h) G e eA){f w rid idx:Nat}(ho:o.op.operands.toList.all operandOk=true)(hk:opX P H call f w rid idx (evV e) o st K=some q) :
  OpROK P HA callA N0 F N G st h eA o K q:=by
 have hv:∀x,x∈o.op.operands.toList→VR (fz F h) G (evV e x) (eA.eval x):=fun x hx=>evV_ok he (List.all_eq_true.1 ho x hx)
 have plain:∀{K:V→St→Option R},opV P H call f w rid idx none (evV e) o st K=some q→OpROK P HA callA N0 F N G st h eA o K q:=by
  intro K hk
  obtain ⟨v,st1,F1,G1,u,h',j1,x1,j2,j3,_,_⟩:=opV_ok P heq hc s he ho hk
  exact ⟨v,st1,F1,N,G1,u,h',j1,x1.toR s rk,j2,j3⟩
 have make:∀{t:TypeId},opV P H call f w rid idx none (evV e) o st (fun v st=>toRows P t st v K)=some q→OpROK P HA callA N0 F N G st h eA o K q:=by
  intro t hk
  obtain ⟨v,st1,F1,G1,u,h',j1,x1,j2,j3,_,_⟩:=opV_ok P heq hc s he ho hk
  have x1':=x1.toR s rk
  obtain ⟨st2,N2,j4,x2⟩:=toRows_ok P x1'.sm x1'.rk j2 j1
  exact ⟨v,st2,F1,N2,G1,u,h',j4,x1'.trans x2,j2.mono x2.le x2.g,j3⟩
 unfold opX at hk
 dsimp only at hk
 split at hk
 ·rename_i t x hop
  split at hk
  ·rename_i r hr
   obtain ⟨hform,hg⟩:=rowsId_some hr
   have hx:=hv x (by simp [hop,Op.operands])
   split at hk
   ·rename_i id i off hxe
    rw [hxe] at hx
    have:id=r.1:=by
     rcases hform with e1 | ⟨i2,off2,e1⟩ <;>rw [hxe] at e1 <;>cases e1
     rfl
    subst this
    obtain ⟨v,st',N',G',w1,ad,h1,h2,x1,h3,h4⟩:=rowLoad_ok P s rk trivial hg hx hk
    exact ⟨v,st',F,N',G',w1,h,h2,x1,h3,fun S KA=>by simp only [opC,hop,h1]; exact h4 S fun u=>KA u h⟩
   ·cases hk
  ·exact plain hk
 ·rename_i t x v hop
  split at hk
  ·rename_i r hr
   obtain ⟨hform,hg⟩:=rowsId_some hr
   have hx:=hv x (by simp [hop,Op.operands])
   have hy:=hv v (by simp [hop,Op.operands])
   split at hk
   ·rename_i id i off hxe
    rw [hxe] at hx
    have:id=r.1:=by
     rcases hform with e1 | ⟨i2,off2,e1⟩ <;>rw [hxe] at e1 <;>cases e1
     rfl
    subst this
    obtain ⟨st',N',h',ad,ti,h1,h2,x1,h3,h4,h5⟩:=rowStore_ok P s rk hg hx hy hk
    refine ⟨_,st',F,N',G,undef,h',h2,x1, .tup .nil,fun S KA=> ?_⟩
    simp only [opC,hop,h1]
    show (sizeC P t fun s=>needC (decide ((eA.eval v).cells.size=s)) fun _=>h.stC ad (eA.eval v).cells.toList fun h'=>KA undef h')=_
    rw [sizeC_to P h3,h4]
    simp only [decide_true,needC,cond_true]
    exact h5 S _
   ·cases hk
  ·exact plain hk
 ·rename_i t a b hop
  cases hb:H.cut f w rid idx <;>rw [hb] at hk <;>simp only [cond_true,cond_false] at hk
  ·exact plain hk
  ·exact make hk
 ·rename_i t a b hop
  cases hb:H.cut f w rid idx <;>rw [hb] at hk <;>simp only [cond_true,cond_false] at hk
  ·exact plain hk
  ·exact make hk
 ·rename_i args ts hop
  split at hk
  ·rename_i sl x hargs
   split at hk
   ·rename_i r hr
    obtain ⟨hform,hg⟩:=rowsId_some hr
    have hsl:=hv sl (by simp [hop,Op.operands,Call.operands,hargs])
    have hx:=hv x (by simp [hop,Op.operands,Call.operands,hargs])
    split at hk
    ·rename_i id hse
     rw [hse] at hsl
     have:id=r.1:=by
      rcases hform with e1 | ⟨i2,off2,e1⟩ <;>rw [hse] at e1 <;>cases e1
      rfl
     subst this
     obtain ⟨v,st',N',G',y,h',h1,x1,h2,h3⟩:=rowApp_ok P s rk hg hsl hx hk
     refine ⟨v,st',F,N',G',y,h',h1,x1,h2,fun S KA=> ?_⟩
     simp only [opC,hop,hargs]
     exact h3 S _
    ·cases hk
   ·exact plain hk
  ·exact plain hk
 ·exact plain hk
end
end Go.Proofs.Ytpfploolkmcalaa.VM
end
section
namespace Go.Proofs.Ytpfploolkmcalaa.VM
open Go AM
set_option linter.unusedSectionVars false
set_option linter.unusedSimpArgs false
set_option linter.unusedVariables false
section
variable {F F' N:NS} {G G' G2:GM} {st st':St} {h h':Hp} {R:Type} {z:Fz} (P:Program)
variable {HA:AM.Hint} {call:CallF} {callA:FuncId→List Value→Hp→Option (Value×Hp)} {H:Hint} {q:R}
theorem evo_pack(s:Sm F N G st h){met:List Nat}{base:Nat}(hb:8≤base){σ:Nat→Option Nat}(h8:∀id,8≤id→σ id=pos (met.filter (Nat.ble 8)) base id)(hl:∀id,id<8→σ id=if id∈met then some id else none){us:List Nat}
  (hu:∀j,base≤j→j<base+met.length→j<500∨j∈us):∃G2,Named σ G G2∧Evo F N G st h F G2 ⟨packB σ st.blks met,us⟩ h:=by
 let G2:GM:=fun j=>if j<8 then G j else if base≤j then ((met.filter (Nat.ble 8))[j - base]?).bind G else none
 have hn:Named σ G G2:=by
  intro id j g hj hg
  rcases Nat.lt_or_ge id 8 with h | h
  ·rw [hl id h] at hj
   split at hj
   ·cases hj
    show (if id<8 then G id else _)=_
    rw [if_pos h]
    exact hg
   ·cases hj
  ·rw [h8 id h] at hj
   obtain ⟨h1,h2⟩:=pos_some hj
   show (if j<8 then G j else if base≤j then _ else none)=_
   rw [if_neg (by omega),if_pos h1,h2]
   exact hg
 have hσ8:∀id j,σ id=some j→j<8→id=j:=by
  intro id j hj hlt
  rcases Nat.lt_or_ge id 8 with h | h
  ·rw [hl id h] at hj
   split at hj
   ·cases hj; rfl
   ·cases hj
  ·rw [h8 id h] at hj
   have:=(pos_some hj).1
   omega
 have hs2:Sm F N G2 ⟨packB σ st.blks met,us⟩ h:=by
  refine s.sub hn (fun j b' hj=> ?_) (fun j g hg=> ?_) (fun _ h=>h) s.fLt (fun id b r k j h1 h2 h3 h4=> ?_)
  ·obtain ⟨id,b,_,h2,h3,h4⟩:=pack_get _ _ hj
   exact ⟨id,b,h2,h3,h4⟩
  ·have hg':(if j<8 then G j else if base≤j then ((met.filter (Nat.ble 8))[j - base]?).bind G else none)=some g:=hg
   split at hg'
   ·exact .inl (by omega)
   ·split at hg'
    ·rename_i h1 h2
     refine hu j h2 ?_
     have:j - base<(met.filter (Nat.ble 8)).length:=by
      rcases Nat.lt_or_ge (j - base) (met.filter (Nat.ble 8)).length with h | h
      ·exact h
      ·rw [List.getElem?_eq_none h] at hg'; cases hg'
     have:=List.length_filter_le (Nat.ble 8) met
     omega
    ·cases hg'
  ·obtain ⟨p1,p2,p3⟩:=s.apart id b r k h1 h3 h4
   exact ⟨p1,p2,fun c hc q hq=>⟨(p3 c hc q hq).2.1,(p3 c hc q hq).2.2.1⟩⟩
 have hback:∀j b k r,(packB σ st.blks met).get j=some b→G2 j=some ⟨r,k⟩→∃id b0 k0,st.blks.get id=some b0∧b=renB σ st.blks b0∧G id=some ⟨r,k0⟩:=by
  intro j b k r hj hG
  obtain ⟨id,b0,_,h2,h3,h4⟩:=pack_get _ _ hj
  obtain ⟨r',h5,_⟩:=s.blk id b0 h2
  have:=hn _ _ _ h3 h5
  rw [hG] at this
  cases this
  exact ⟨id,b0,_,h2,h4,h5⟩
 refine ⟨G2,hn,hs2,fun _ h=>h,Ext.refl _ _ _,fun L hL=>⟨hL.low,hL.next,fun j b r k h1 h2 h3=> ?_⟩,fun j b r k h1 h2 h3=> ?_,fun j b h1 h2=> ?_,fun r h=> .inl h,fun j b h1 h2=> ?_,fun hu j1 b1 j2 b2 g1 g2 r1 r2=> ?_⟩
 ·obtain ⟨id,b0,k0,e1,rfl,e3⟩:=hback j b k r h1 h3
  rw [(renB_kind _ _ _).2.2] at h2
  exact hL.blk id b0 r k0 e1 h2 e3
 ·obtain ⟨id,b0,k0,e1,rfl,e3⟩:=hback j b k r h1 h3
  rw [(renB_kind _ _ _).2.1] at h2
  exact .inr ⟨id,b0,k0,e1,h2,e3⟩
 ·obtain ⟨id,b0,_,e2,e3,_⟩:=pack_get _ _ h1
  have:=hσ8 id j e3 h2
  subst this
  refine ⟨b0,e2, ?_⟩
  show (if id<8 then G id else _)=_
  rw [if_pos h2]
 ·obtain ⟨id,b0,_,e2,e3,rfl⟩:=pack_get _ _ h1
  obtain ⟨r,e5,_⟩:=s.blk id b0 e2
  refine ⟨id,_, ?_,e5,hn _ _ _ e3 e5⟩
  rw [e2]
  cases b0 <;>first | rfl | (cases h2; done)
 ·obtain ⟨idA,bA,_,e2,e3,rfl⟩:=pack_get _ _ g1
  obtain ⟨idB,bB,_,f2,f3,rfl⟩:=pack_get _ _ g2
  have hr:∀b,isRows (renB σ st.blks b)=true→isRows b=true:=fun b h=>by cases b <;>simpa [renB,isRows] using h
  have:=hu idA bA idB bB e2 f2 (hr _ r1) (hr _ r2)
  subst this
  rw [e3] at f3
  exact Option.some.inj f3
theorem slotsC_ok{e:Env}{eA:AM.Env}{z:Fz} :∀{l:List (Nat×Nat)} {F:NS} {G:GM} {st:St} {K:Env→St→Option R},Sm F N G st h→(∀t,VR (fz F h) G (e.get t) (eA.get t))→slotsC e l st K=some q→
  ∃vs st' F' G',K vs st'=some q∧Step F N G st h F' G' st' h∧∀x∈vs,VR (fz F' h) G' x.2 (eA.get x.1)
 | [],F,G,st,K,s,he,hk=>⟨[],st,F,G,hk,Step.refl s,fun _ h=>nomatch h⟩
 | (t,form)::l,F,G,st,K,s,he,hk=>by
  rw [slotsC] at hk
  obtain ⟨v,st1,F1,G1,h1,x1,h2,_⟩:=formC_ok s (Fz.le_refl _) (he t) hk
  obtain ⟨vs,st2,F2,G2,h3,x2,h4⟩:=slotsC_ok (z:=z) x1.sm (fun t=>x1.vr (he t)) h1
  refine ⟨_,st2,F2,G2,h3,x1.trans x2,fun x hx=> ?_⟩
  rcases List.mem_cons.1 hx with rfl | hx
  ·exact x2.vr h2
  ·exact h4 x hx
theorem cellsC_ok{e:Env} :∀{l:List (Nat×Nat×Nat)} {F:NS} {G:GM} {st:St} {K:St→Option R},Sm F N G st h→cellsC e l st K=some q→∃st' F' G',K st'=some q∧Step F N G st h F' G' st' h
 | [],F,G,st,K,s,hk=>⟨st,F,G,hk,Step.refl s⟩
 | (t,c,form)::l,F,G,st,K,s,hk=>by
  rw [cellsC] at hk
  obtain ⟨st1,F1,G1,h1,x1⟩:=cellC_ok s hk
  obtain ⟨st2,F2,G2,h2,x2⟩:=cellsC_ok x1.sm h1
  exact ⟨st2,F2,G2,h2,x1.trans x2⟩
theorem get_mem{e:Env}{t:Nat} :e.get t= .junk∨∃x∈e,x.1=t∧x.2=e.get t:=by
 induction e with
 | nil=>exact .inl rfl
 | cons x e ih=>
  obtain ⟨i,v⟩:=x
  simp only [Env.get]
  cases hi:i==t
  ·rcases ih with h | ⟨y,h1,h2,h3⟩
   ·exact .inl h
   ·exact .inr ⟨y,List.mem_cons_of_mem _ h1,h2,h3⟩
  ·exact .inr ⟨(i,v),List.mem_cons_self ..,by simpa using hi,rfl⟩
theorem normC_ok(s:Sm F N G st h){e:Env}{eA:AM.Env}(he:EnvR (fz F h) G e eA){n:Norm}{K:Env→St→Option R}(hk:normC n e st K=some q) :
  ∃e' st' F' G',K e' st'=some q∧Evo F N G st h F' G' st' h∧EnvR (fz F' h) G' e' eA:=by
 unfold normC at hk
 obtain ⟨vs,st1,F1,G1,h1,x1,h2⟩:=slotsC_ok (z:=fz F h) s he hk
 obtain ⟨st2,F2,G2,h3,x2⟩:=cellsC_ok x1.sm h1
 dsimp only at h3
 generalize hmet:reach st2.blks 200 (argIds st2.blks++vs.flatMap fun x=>refs3 x.2) []=met at h3
 obtain ⟨h4,h3⟩:=needC_some h3
 have hl:=Nat.le_of_ble_eq_true h4
 obtain ⟨G3,hn,x3⟩:=evo_pack x2.sm (met:=met) (base:=8) (σ:=normN met) (us:=[]) (Nat.le_refl _) (fun id h=>by
  unfold normN; rw [Nat.ble_eq_true_of_le h]; rfl) (fun id h=>by
  unfold normN
  have:Nat.ble 8 id=false:=by
   cases h8:Nat.ble 8 id
   ·rfl
   ·have:=Nat.le_of_ble_eq_true h8; omega
  rw [this]
  cases hc:met.contains id
  ·have:id∉met:=by simpa using hc
   simp [this]
  ·have:id∈met:=by simpa using hc
   simp [this]) (fun j h1 h2=> .inl (by omega))
 refine ⟨_,_,F2,G3,h3,((x1.trans x2).evo s).trans x3,fun t=> ?_⟩
 rcases get_mem (e:=vs.map fun x=>(x.1,ren3 (normN met) st2.blks x.2)) (t:=t) with hj | ⟨x,hx,h5,h6⟩
 ·rw [hj]; exact .junk _
 ·rw [←h6]
  obtain ⟨y,hy,rfl⟩:=List.mem_map.1 hx
  simp only at h5 ⊢
  rw [←h5]
  exact ren3_ok x2.sm hn (Fz.le_refl _) (x2.vr (h2 y hy))
theorem normE_ok(s:Sm F N G st h){e:Env}{eA:AM.Env}(he:EnvR (fz F h) G e eA){f w:Nat}{c:Code}{K:Env→St→Option R}(hk:normE H f w c e st K=some q) :
  ∃e' st' F' G',K e' st'=some q∧Evo F N G st h F' G' st' h∧EnvR (fz F' h) G' e' eA:=by
 have key:∃F' G',Evo F N G st h F' G' (nrm H f w c e st).2 h∧EnvR (fz F' h) G' (nrm H f w c e st).1 eA:=by
  unfold nrm
  split
  ·split
   ·split
    ·rename_i x hx
     obtain ⟨e',st',F',G',h1,h2,h3⟩:=normC_ok s he hx
     cases h1
     exact ⟨F',G',h2,h3⟩
    ·exact ⟨F,G,(Step.refl s).evo s,fun _=> .junk _⟩
   ·exact ⟨F,G,(Step.refl s).evo s,he⟩
  ·exact ⟨F,G,(Step.refl s).evo s,he⟩
 obtain ⟨F',G',h1,h2⟩:=key
 exact ⟨_,_,F',G',hk,h1,h2⟩
/-! ### regions -/
theorem EnvR.put{e:Env}{eA:AM.Env}(he:EnvR z G e eA){v:V}{u:Value}(hv:VR z G v u)(d:Option Nat) :EnvR z G (e.put d v) (eA.put d u):=by
 cases d with
 | none=>exact he
 | some d=>
  intro t
  simp only [Env.put,AM.Env.put,Env.get,AM.Env.get]
  cases d==t
  ·exact he t
  ·exact hv
theorem EnvR.mono{z':Fz}{e:Env}{eA:AM.Env}(he:EnvR z G e eA)(hz:Fz.le z z')(hg:LeG G G') :EnvR z' G' e eA:=fun t=>(he t).mono hz hg
theorem guardV_ok{ops:Array Oper}{o:Oper}{e:Env}{eA:AM.Env}(he:EnvR z G e eA){yes no:Env→Option R}(hk:guardV ops o e yes no=some q) :
    ∃e' eA',EnvR z G e' eA'∧((yes e'=some q∧∀(S:Type) (ya na:AM.Env→Option S),guardC ops o eA ya na=ya eA')∨(no e'=some q∧∀(S:Type) (ya na:AM.Env→Option S),guardC ops o eA ya na=na eA')):=by
  unfold guardV at hk
  split at hk
  · rename_i hg
    exact ⟨e,eA,he, .inl ⟨hk,fun S ya na=>by unfold guardC; simp only [hg]⟩⟩
  · rename_i g want hg
    split at hk
    · rename_i d hd
      have hd':=he d
      split at hk
      · rename_i x hx
        rw [hx] at hd'
        split at hk
        · rename_i b
          have hb:eA.get d= .bool b:=by
            cases vr_t hd' with
            | one hr=>revert hr; generalize eA.get d=u; intro hr; cases hr; rfl
          have hput:∀bb,EnvR z G ((d, .t (.bool bb))::e) ((d, .bool bb)::eA):=fun bb=>EnvR.put he (.t (.bool bb)) (some d)
          cases b <;>cases want <;>simp only at hk
          · exact ⟨_,_,hput false, .inl ⟨hk,fun S ya na=>by unfold guardC; simp only [hg,hd,hb]⟩⟩
          · exact ⟨_,_,hput false, .inr ⟨hk,fun S ya na=>by unfold guardC; simp only [hg,hd,hb]⟩⟩
          · exact ⟨_,_,hput true, .inr ⟨hk,fun S ya na=>by unfold guardC; simp only [hg,hd,hb]⟩⟩
          · exact ⟨_,_,hput true, .inl ⟨hk,fun S ya na=>by unfold guardC; simp only [hg,hd,hb]⟩⟩
        · cases hk
      · rename_i vs hx
        rw [hx] at hd'
        cases hv:vs.isEmpty <;>rw [hv] at hk
        · cases hk
        · have:vs=[]:=by simpa using hv
          subst this
          have hb:eA.get d= .tuple #[]:=by
            revert hd'
            generalize eA.get d=u
            intro hd'
            cases hd' with
            | @tup _ a h=>
              cases h2:a.toList with
              | nil => have : a = #[] := by simpa using h2
                       rw [this]
              | cons x l=>rw [h2] at h; cases h
          exact ⟨e,eA,he, .inr ⟨hk,fun S ya na=>by unfold guardC; simp only [hg,hd,hb]; rfl⟩⟩
      · cases hk
    · cases hk
theorem lenV1_free{z:Fz}{o:Oper}{e:Env}{eA:AM.Env}(he:EnvR z G e eA)(ho:o.op.operands.toList.all operandOk=true)(hl:lenV1 o (evV e)=true) :lenFree o eA.eval=true:=by
 unfold lenV1 at hl
 unfold lenFree
 split at hl
 ·rename_i args ts hop
  rw [hop]
  dsimp only
  have hv:∀x,x∈args.toList→VR z G (evV e x) (eA.eval x):=fun x hx=>evV_ok he (List.all_eq_true.1 ho x (by simpa [hop,Op.operands,Call.operands] using hx))
  cases ha:args.toList with
  | nil=>rfl
  | cons x l=>
   rw [ha] at hl hv
   cases l with
   | cons y l=>
    split
    ·rename_i heq; simp at heq
    ·rfl
   | nil=>
    have hx:=hv x (List.mem_cons_self ..)
    dsimp only [List.map] at hl ⊢
    split at hl
    ·rename_i y heq
     have h1:evV e x= .t y:=by simpa using heq
     rw [h1] at hx
     generalize eA.eval x=u at hx ⊢
     cases u <;>first | rfl | skip
     cases hx with
     | t hs=>cases hs
    ·rename_i y heq
     have h1:evV e x= .buf y:=by simpa using heq
     rw [h1] at hx
     generalize eA.eval x=u at hx ⊢
     cases u <;>first | rfl | skip
     cases hx
    ·cases hl
 ·rename_i hno
  split
  ·rename_i args ts hop
   exact absurd hop (hno _ _)
  ·rfl
theorem opsV_ok{ch:Bool}(heq:HA.eqt=H.eqt)(hc:CallOKV call callA){f w rid:Nat}{ops:Array Oper}{N0:NS} :∀{l:List Oper} {i:Nat} {F N:NS} {G:GM} {st:St} {h:Hp} {e:Env} {eA:AM.Env} {K:Env→St→Option R},(∀o∈l,o.op.operands.toList.all operandOk=true)→Sm F N G st h→RowsOk N0 F N G st h→EnvR (fz F h) G e eA→
  opsV P H call ch f w rid ops l i e st K=some q→∃e' st' F' N' G' eA' h',K e' st'=some q∧RStep N0 F N G st h F' N' G' st' h'∧EnvR (fz F' h') G' e' eA'∧∀(S:Type) (KA:AM.Env→Hp→Option S),(bif ch then opsL P HA callA ops l eA h KA else opsC P HA callA ops l eA h KA)=KA eA' h'
 | [],i,F,N,G,st,h,e,eA,K,ho,s,rk,he,hk=>⟨e,st,F,N,G,eA,h,hk,RStep.refl s rk,he,fun S KA=>by cases ch <;>rfl⟩
 | o::l,i,F,N,G,st,h,e,eA,K,ho,s,rk,he,hk=>by
  rw [opsV] at hk
  obtain ⟨e1,eA1,he1,hcase⟩:=guardV_ok he hk
  rcases hcase with ⟨h1,h2⟩ | ⟨h1,h2⟩
  ·obtain ⟨hch,h1⟩:=needC_some h1
   obtain ⟨v,st1,F1,N1,G1,u,h',j1,x1,j2,j3⟩:=opX_ok P heq hc s rk he1 (ho o (List.mem_cons_self ..)) h1
   obtain ⟨e2,st2,F2,N2,G2,eA2,h'',k1,x2,k2,k3⟩:=opsV_ok heq hc (fun o ho'=>ho o (List.mem_cons_of_mem _ ho')) x1.sm x1.rk ((he1.mono x1.le x1.g).put j2 o.dst) j1
   refine ⟨e2,st2,F2,N2,G2,eA2,h'',k1,x1.trans x2,k2,fun S KA=> ?_⟩
   have k3:=k3 S KA
   cases ch with
   | false=>
    rw [cond_false] at k3 ⊢
    rw [opsC,h2,j3]
    exact k3
   | true=>
    rw [cond_true] at k3 ⊢
    rw [opsL,h2,needP_true (fun _=>lenV1_free he1 (ho o (List.mem_cons_self ..)) (by simpa using hch)),j3]
    exact k3
  ·obtain ⟨e2,st2,F2,N2,G2,eA2,h'',k1,x2,k2,k3⟩:=opsV_ok heq hc (fun o ho'=>ho o (List.mem_cons_of_mem _ ho')) s rk (he1.put (u:=undef) (.tup .nil) o.dst) h1
   refine ⟨e2,st2,F2,N2,G2,eA2,h'',k1,x2,k2,fun S KA=> ?_⟩
   have k3:=k3 S KA
   cases ch with
   | false=>
    rw [cond_false] at k3 ⊢
    rw [opsC,h2]
    exact k3
   | true=>
    rw [cond_true] at k3 ⊢
    rw [opsL,h2]
    exact k3
theorem Sm.relow(s:Sm F N G st h)(n:Nat) :Sm F N G st (h.relow n):=
 ⟨⟨s.ok.new,s.ok.maps,s.ok.old,s.ok.next⟩,s.fLt,fun id b hb=>by
  obtain ⟨r,h1,h2⟩:=s.blk id b hb
  refine ⟨r,h1, ?_⟩
  cases b <;>exact h2,s.inj,s.apart,s.gUsed⟩
theorem Step.relow(x:Step F N G st (h.relow h.next) F' G' st' h') :Step F N G st h F' G' st' (h'.relow (min h.low h'.low)):=
 ⟨x.sm.relow _,x.f,x.g,⟨x.ext.base,x.ext.old,x.ext.next,x.ext.keep,x.ext.low⟩,fun L hL=>by
  have:=x.lw L ⟨hL.next,hL.next,hL.blk⟩
  exact ⟨Nat.le_min.2 ⟨hL.low,this.low⟩,this.next,this.blk⟩,x.ori,x.ids,x.fo,x.rows⟩
def RdR(G:GM)(rs rsA:List (Nat×Nat)) :Prop:=∀i id,(i,id)∈rs→∃r k,G id=some ⟨r,k⟩∧(i,r)∈rsA∧realK k=true
theorem RdR.mono{rs rsA:List (Nat×Nat)}(hr:RdR G rs rsA)(hg:LeG G G') :RdR G' rs rsA:=fun i id hm=>by
 obtain ⟨r,k,h1,h2⟩:=hr i id hm
 exact ⟨r,k,hg _ _ h1,h2⟩
theorem RdR.note{rs rsA:List (Nat×Nat)}{e:Env}{eA:AM.Env}{z:Fz}(hr:RdR G rs rsA)(he:EnvR z G e eA)(o:Oper)(i:Nat) :RdR G (noteV o i e rs) (noteR o i eA rsA):=by
 have hsub:∀x,x∈rsA→x∈noteR o i eA rsA:=fun x hx=>by
  unfold noteR
  split
  ·exact List.mem_cons_of_mem _ hx
  ·exact hx
 intro j id hm
 unfold noteV at hm
 split at hm
 ·rename_i id2 hid
  rcases List.mem_cons.1 hm with e0 | hm
  ·obtain ⟨e1,e2⟩:=Prod.mk.inj e0
   rw [e1,e2]
   clear e0 e1 e2 hm
   unfold readId at hid
   split at hid
   ·rename_i ty x hop
    split at hid
    ·rename_i t
     split at hid
     ·rename_i id3 ix off hg
      have e3:id3=id2:=Option.some.inj hid
      rw [e3] at hg
      have hv:=he t
      rw [hg] at hv
      have done:∀(r:Nat) (k:Gk) (a:Addr),G id2=some ⟨r,k⟩→eA.get t= .pointer (some a)→a.block=r→realK k=true→∃r k,G id2=some ⟨r,k⟩∧(i,r)∈noteR o i eA rsA∧realK k=true:=by
       intro r k a h1 h2 h3 h4
       refine ⟨r,k,h1, ?_,h4⟩
       have:readBlk o eA=some r:=by
        unfold readBlk
        rw [hop]
        simp only [h2,Option.map_some,h3]
       unfold noteR
       rw [this]
       exact List.mem_cons_self ..
      generalize hu:eA.get t=u at hv
      cases hv with
      | ptrA h=>exact done _ _ _ h hu rfl rfl
      | ptrV h=>exact done _ _ _ h hu rfl rfl
      | ptrW h=>exact done _ _ _ h hu rfl rfl
     ·cases hid
    ·cases hid
   ·cases hid
  ·obtain ⟨r,k,h1,h2,h3⟩:=hr j id hm
   exact ⟨r,k,h1,hsub _ h2,h3⟩
 ·obtain ⟨r,k,h1,h2,h3⟩:=hr j id hm
  exact ⟨r,k,h1,hsub _ h2,h3⟩
theorem lookR_mem :∀{rs:List (Nat×Nat)} {i id:Nat},lookR rs i=some id→(i,id)∈rs
 | [],_,_,h=>by cases h
 | (j,x)::rs,i,id,h=>by
  unfold lookR at h
  cases hj:j==i <;>rw [hj] at h
  ·exact List.mem_cons_of_mem _ (lookR_mem h)
  ·have:j=i:=by simpa using hj
   subst this
   cases h
   exact List.mem_cons_self ..
theorem lookRs_mem{rs:List (Nat×Nat)} :∀{l ids:List Nat},lookRs rs l=some ids→∀i∈l,∃id∈ids,(i,id)∈rs
 | [],_,_,i,hi=>by cases hi
 | j::l,ids,h,i,hi=>by
  unfold lookRs at h
  split at h
  ·rename_i id ids' h1 h2
   cases h
   rcases List.mem_cons.1 hi with rfl | hi
   ·exact ⟨id,List.mem_cons_self ..,lookR_mem h1⟩
   ·obtain ⟨x,h3,h4⟩:=lookRs_mem h2 i hi
    exact ⟨x,List.mem_cons_of_mem _ h3,h4⟩
  ·cases h
theorem beside_ok{ops:Array Oper}{i:Nat}{rs rsA:List (Nat×Nat)}(hbr:besideRead ops i=true)(hr:RdR G rs rsA)(ha:AlOk (asideV ops i rs) G (h.relow h.next) h') :beside ops i rsA h h':=by
 unfold asideV at ha
 rw [hbr,cond_true] at ha
 obtain ⟨h1,h2⟩:=ha
 cases hl:lookRs rs (unordered ops i) with
 | none=>
  rw [hl] at h1
  exact .inl (h1 rfl h.next (Nat.le_refl _) (Nat.le_refl _))
 | some ids=>
  rw [hl] at h2
  refine .inr fun j hj hjr hb1 hb2=> ?_
  have hm:j∈unordered ops i:=by
   unfold unordered
   rw [List.mem_filter]
   exact ⟨by simpa using hj,by rw [hjr,hb1,hb2]; rfl⟩
  obtain ⟨id,h3,h4⟩:=lookRs_mem hl j hm
  obtain ⟨r,k,h5,h6,h7⟩:=hr j id h4
  exact ⟨r,h6,h2 id h3 r k h5 h7⟩
theorem readOnly_pure{o:Oper}(hc:cls o= .pure)(ev:Operand→V) :readOnly o ev=true:=by
 unfold readOnly
 split
 ·rename_i hop
  simp [cls,hop] at hc
 ·rfl
structure Hist (N:NS) (G:GM) (z:Fz) (hs:List Hp) (sts:List St):Prop where
 len':sts.length=hs.length
 old:∀(k:Nat) (s':St),sts[k]? =some s'→∃(F':NS) (G':GM) (h':Hp),hs[k]? =some h'∧Sm F' N G' s' h'∧LeG G' G∧Fz.le (fz F' h') z
theorem Hist.push{N:NS}{G G':GM}{z:Fz}{F:NS}{hs:List Hp}{sts:List St}{st:St}{h:Hp}(hH:Hist N G z hs sts)(hg:LeG G G')(hz:Fz.le z (fz F h))(s:Sm F N G' st h)(hl:True) :Hist N G' (fz F h) (hs++[h]) (sts++[st]):=by
 refine ⟨by simp [hH.len'],fun k s' hk=> ?_⟩
 rcases Nat.lt_or_ge k sts.length with hlt | hge
 ·rw [List.getElem?_append_left hlt] at hk
  obtain ⟨F',G0,h',a1,a2,a3,a4⟩:=hH.old k s' hk
  refine ⟨F',G0,h', ?_,a2,a3.trans hg,Fz.le_trans a4 hz⟩
  rw [List.getElem?_append_left (by rw [←hH.len']; exact hlt)]
  exact a1
 ·rw [List.getElem?_append_right hge] at hk
  have hk0:k - sts.length=0:=by
   have:=(List.getElem?_eq_some_iff.1 hk).1
   simp at this
   exact this
  rw [hk0] at hk
  cases hk
  refine ⟨F,G',h, ?_,s,LeG.refl _,Fz.le_refl _⟩
  rw [List.getElem?_append_right (by rw [←hH.len']; exact hge),←hH.len',hk0]
  rfl
theorem lenC_old{P:Program}{ts:List TypeId}{x:Value}(hm:∀r,x ≠ .map r)(h h0:Hp){S:Type}(K:Value→Option S) :lenC P ts [x] h K=lenC P ts [x] h0 K:=by
 unfold lenC
 split
 ·rename_i he
  cases he
  split <;>try rfl
  unfold asMapC
  cases x <;>first | rfl | exact absurd rfl (hm _)
 ·rfl
theorem len_old{P:Program}{HA:AM.Hint}{callA:FuncId→List Value→Hp→Option (Value×Hp)}{o:Oper}{t:Nat}(hl:lenArg o=some t){eA:AM.Env}(hm:∀r,eA.get t ≠ .map r)(h h0:Hp){u:Value}
  (hj:∀(S:Type) (KA:Value→Hp→Option S),opC P HA callA eA.eval o h KA=KA u h) {S:Type} {KA:Value→Hp→Option S}:opC P HA callA eA.eval o h0 KA=KA u h0:=by
 unfold lenArg at hl
 split at hl
 ·rename_i args tys hop
  split at hl
  ·rename_i x hx
   split at hl
   ·rename_i t'
    cases hl
    have e1:∀(h:Hp) (S:Type) (KA:Value→Hp→Option S),opC P HA callA eA.eval o h KA=lenC P tys.toList [eA.get t] h fun v=>KA v h:=fun h S KA=>by
     unfold opC
     simp only [hop,hx]
     rfl
    have:=hj S (fun v _=>KA v h0)
    rw [e1] at this ⊢
    rw [lenC_old hm h0 h]
    exact this
   ·cases hl
  ·cases hl
 ·cases hl
theorem ptr_old{F0:NS}{N:NS}{G0 G:GM}{st0:St}{h0:Hp}{z:Fz}(s:Sm F0 N G0 st0 h0)(hg:LeG G0 G){id i off:Nat}{b:Blk}(hb:st0.blks.get id=some b){u:Value}(hv:VR z G (.ptr id i off) u) :VR (fz F0 h0) G0 (.ptr id i off) u:=by
 obtain ⟨r,hG,_⟩:=s.blk id b hb
 have hG2:=hg _ _ hG
 cases hv with
 | ptrA h=>rw [Option.some.inj (hG2.symm.trans h)] at hG; exact .ptrA hG
 | ptrV h=>rw [Option.some.inj (hG2.symm.trans h)] at hG; exact .ptrV hG
 | ptrW h=>rw [Option.some.inj (hG2.symm.trans h)] at hG; exact .ptrW hG
theorem drawV_ok(heq:HA.eqt=H.eqt)(hc:CallOKV call callA){f w rid:Nat}{ops:Array Oper} :∀{l:List Oper} {i:Nat} {F:NS} {G:GM} {st:St} {h:Hp} {hs:List Hp} {nh:Nat} {sts:List St} {rs rsA:List (Nat×Nat)} {e:Env} {eA:AM.Env} {K:Env→St→Option R},l=ops.toList.drop i→(∀o∈l,o.op.operands.toList.all operandOk=true)→Sm F N G st h→EnvR (fz F h) G e eA→
  hs.length=nh+1→hs[nh]? =some h→Hist N G (fz F h) hs sts→RdR G rs rsA→drawV P H call f w rid ops l i e st nh sts rs K=some q→∃e' st' F' G' eA' h',K e' st'=some q∧Step F N G st h F' G' st' h'∧EnvR (fz F' h') G' e' eA'∧∀(S:Type) (KA:AM.Env→Hp→Option S),drawC P HA callA ops l i eA h hs rsA KA=KA eA' h'
 | [],i,F,G,st,h,hs,nh,sts,rs,rsA,e,eA,K,hd,ho,s,he,hl,hh,hH,hR,hk=>⟨e,st,F,G,eA,h,hk,Step.refl s,he,fun S KA=>rfl⟩
 | o::l,i,F,G,st,h,hs,nh,sts,rs,rsA,e,eA,K,hd,ho,s,he,hl,hh,hH,hR,hk=>by
  have hoi:ops[i]? =some o:=by
   have:(ops.toList.drop i)[0]? =some o:=by rw [←hd]; rfl
   rw [List.getElem?_drop,Nat.add_zero] at this
   simpa using this
  have hd':l=ops.toList.drop (i+1):=by
   have:(ops.toList.drop i).tail=l:=by rw [←hd]; rfl
   rw [←this,List.tail_drop]
  have happ:∀h1:Hp,(hs++[h1]).length=nh+1+1∧(hs++[h1])[nh+1]? =some h1:=fun h1=>⟨by simp [hl],by rw [List.getElem?_append_right (by omega),hl]; simp⟩
  have ho':∀o∈l,o.op.operands.toList.all operandOk=true:=fun o ho2=>ho o (List.mem_cons_of_mem _ ho2)
  have hoo:=ho o (List.mem_cons_self ..)
  rw [drawV] at hk
  obtain ⟨e1,eA1,he1,hcase⟩:=guardV_ok he hk
  rcases hcase with ⟨h1,h2⟩ | ⟨h1,h2⟩
  ·cases hcl:cls o with
   | pure=>
    simp only [hcl] at h1
    obtain ⟨v,st1,F1,G1,u,h',j1,x1,j2,j3,_,j5⟩:=opV_ok P heq hc s he1 hoo h1
    obtain ⟨rfl,rfl,rfl,rfl⟩:=j5 (by unfold quietB; rw [hcl,readOnly_pure hcl]; rfl)
    obtain ⟨e2,st2,F2,G2,eA2,h'',k1,x2,k2,k3⟩:=drawV_ok heq hc hd' ho' s (he1.put j2 o.dst) hl hh hH hR j1
    refine ⟨e2,st2,F2,G2,eA2,h'',k1,x2,k2,fun S KA=> ?_⟩
    rw [drawC,h2]
    simp only [hcl]
    rw [j3]
    exact k3 S KA
   | reads=>
    simp only [hcl] at h1
    obtain ⟨e',s',h1,hrd,hcase⟩:=readC_some h1
    obtain ⟨h3,h1⟩:=needC_some h1
    rw [Bool.and_eq_true] at h3
    obtain ⟨h3,h4⟩:=h3
    rcases hcase with ⟨hn,he',hs'⟩ | ⟨m,t,id,ix,off,hop,hg,hst,hsome,he'⟩ | ⟨t,hla,htr,he',hs'⟩
    ·subst he' hs'
     obtain ⟨v,st1,F1,G1,u,h',j1,x1,j2,j3,_,j5⟩:=opV_ok P heq hc s he1 hoo h1
     obtain ⟨rfl,rfl,rfl,rfl⟩:=j5 (by unfold quietB; rw [hcl,h3]; rfl)
     obtain ⟨e2,st2,F2,G2,eA2,h'',k1,x2,k2,k3⟩:=drawV_ok heq hc hd' ho' s (he1.put j2 o.dst) hl hh hH (hR.note he1 o i) j1
     refine ⟨e2,st2,F2,G2,eA2,h'',k1,x2,k2,fun S KA=> ?_⟩
     rw [drawC,h2]
     simp only [hcl]
     rw [needP_true (fun _=>lenV1_free he1 hoo h4)]
     have:hs.getD (actsAhead ops i) h'=h':=by
      rw [hn,List.getD_eq_getElem?_getD,hh]
      rfl
     rw [this,j3]
     exact k3 S KA
    ·obtain ⟨F0,G0,h0,q1,q2,q3,q4⟩:=hH.old _ _ hst
     obtain ⟨b,hb⟩:=Option.isSome_iff_exists.1 hsome
     have hp:VR (fz F0 h0) G0 (.ptr id ix off) (eA1.get t):=by
      have:=he1 t
      rw [hg] at this
      exact ptr_old q2 q3 hb this
     have heO:EnvR (fz F0 h0) G0 e' [(t,eA1.get t)]:=by
      rw [he']
      intro t'
      simp only [Env.get,AM.Env.get]
      cases ht:t==t' <;>simp only [cond_true,cond_false]
      ·exact .junk _
      ·exact hp
     obtain ⟨v,st1,F1,G1,u,h',j1,x1,j2,j3,_,j5⟩:=opV_ok P heq hc q2 heO hoo h1
     obtain ⟨rfl,rfl,rfl,rfl⟩:=j5 (by unfold quietB; rw [hcl,h3]; rfl)
     obtain ⟨e2,st2,F2,G2,eA2,h'',k1,x2,k2,k3⟩:=drawV_ok heq hc hd' ho' s (he1.put (j2.mono q4 q3) o.dst) hl hh hH (hR.note he1 o i) j1
     refine ⟨e2,st2,F2,G2,eA2,h'',k1,x2,k2,fun S KA=> ?_⟩
     rw [drawC,h2]
     simp only [hcl]
     rw [needP_true (fun hlb=>by simp [lenB,hop] at hlb)]
     have:hs.getD (actsAhead ops i) h=h':=by
      rw [List.getD_eq_getElem?_getD,q1]
      rfl
     have hev:opC P HA callA eA1.eval o h'=(opC P HA callA (AM.Env.eval [(t,eA1.get t)]) o h':(Value→Hp→Option S)→Option S):=by
      funext K'
      have e1:AM.Env.eval [(t,eA1.get t)] (.tmp t)=eA1.get t:=by
       show AM.Env.get [(t,eA1.get t)] t=_
       simp [AM.Env.get]
      have e2:eA1.eval (.tmp t)=eA1.get t:=rfl
      unfold opC
      rw [hop]
      simp only [e1,e2]
     rw [this,hev,j3]
     exact k3 S KA
    ·subst he' hs'
     obtain ⟨v,st1,F1,G1,u,h',j1,x1,j2,j3,_,j5⟩:=opV_ok P heq hc s he1 hoo h1
     obtain ⟨rfl,rfl,rfl,rfl⟩:=j5 (by unfold quietB; rw [hcl,h3]; rfl)
     obtain ⟨e2,st2,F2,G2,eA2,h'',k1,x2,k2,k3⟩:=drawV_ok heq hc hd' ho' s (he1.put j2 o.dst) hl hh hH (hR.note he1 o i) j1
     refine ⟨e2,st2,F2,G2,eA2,h'',k1,x2,k2,fun S KA=> ?_⟩
     rw [drawC,h2]
     simp only [hcl]
     rw [needP_true (fun _=>lenV1_free he1 hoo h4)]
     have hm:∀r,eA1.get t ≠ .map r:=fun r hr=>by
      have hv:=he1 t
      rw [hr] at hv
      cases hx:Env.get _ t with
      | t y=>rw [hx] at hv; cases hv with | t hs=>cases hs
      | _=>rw [hx] at htr; cases htr
     rw [len_old hla hm h' (hs.getD (actsAhead ops i) h') j3]
     exact k3 S KA
   | acts=>
    simp only [hcl] at h1
    cases hbr:besideRead ops i with
    | false=>
     have hal:asideV ops i rs=none:=by unfold asideV; rw [hbr]; rfl
     rw [hal] at h1
     obtain ⟨v,st1,F1,G1,u,h',j1,x1,j2,j3,_,_⟩:=opV_ok P heq hc s he1 hoo h1
     obtain ⟨e2,st2,F2,G2,eA2,h'',k1,x2,k2,k3⟩:=drawV_ok heq hc hd' ho' x1.sm ((he1.mono x1.le x1.g).put j2 o.dst) (happ h').1 (happ h').2 (hH.push x1.g x1.le x1.sm trivial) (hR.mono x1.g) j1
     refine ⟨e2,st2,F2,G2,eA2,h'',k1,x1.trans x2,k2,fun S KA=> ?_⟩
     rw [drawC,h2]
     simp only [hcl,hbr,cond_false]
     rw [j3]
     exact k3 S KA
    | true=>
     have hcb:wildB o=true:=by
      unfold besideRead at hbr
      rw [hoi] at hbr
      simp only [Option.map_some,Option.getD_some,Bool.and_eq_true] at hbr
      exact hbr.1
     obtain ⟨v,st1,F1,G1,u,h',j1,x1,j2,j3,j4,_⟩:=opV_ok P heq hc (s.relow h.next) (F:=F) (G:=G) (eA:=eA1) he1 hoo h1
     have hbes:=beside_ok hbr hR (j4 hcb)
     have x1':=x1.relow
     obtain ⟨e2,st2,F2,G2,eA2,h'',k1,x2,k2,k3⟩:=drawV_ok heq hc hd' ho' x1'.sm ((he1.mono x1'.le x1.g).put j2 o.dst) (happ (h'.relow (min h.low h'.low))).1 (happ (h'.relow (min h.low h'.low))).2 (hH.push x1'.g x1'.le x1'.sm trivial) (hR.mono x1'.g) j1
     refine ⟨e2,st2,F2,G2,eA2,h'',k1,x1'.trans x2,k2,fun S KA=> ?_⟩
     rw [drawC,h2]
     simp only [hcl,hbr,cond_true]
     rw [j3,needP_true hbes]
     exact k3 S KA
  ·have hstep:∀(hs':List Hp) (nh':Nat),hs'=(bif actsB o then hs++[h] else hs)→nh'=(bif actsB o then nh+1 else nh)→hs'.length=nh'+1∧hs'[nh']? =some h:=by
    intro hs' nh' e1 e2
    subst e1 e2
    cases actsB o
    ·exact ⟨hl,hh⟩
    ·exact happ h
   obtain ⟨i1,i2⟩:=hstep _ _ rfl rfl
   obtain ⟨e2,st2,F2,G2,eA2,h'',k1,x2,k2,k3⟩:=drawV_ok heq hc hd' ho' s (he1.put (u:=undef) (.tup .nil) o.dst) i1 i2 (by cases actsB o <;>simp only [cond_true,cond_false]; exact hH; exact hH.push (LeG.refl _) (Fz.le_refl _) s trivial) hR h1
   refine ⟨e2,st2,F2,G2,eA2,h'',k1,x2,k2,fun S KA=> ?_⟩
   rw [drawC,h2]
   exact k3 S KA
end
end Go.Proofs.Ytpfploolkmcalaa.VM
end
section
namespace Go.Proofs.Ytpfploolkmcalaa.VM
open Go AM
set_option linter.unusedSectionVars false
set_option linter.unusedSimpArgs false
set_option linter.unusedVariables false
section
variable {F F' N N':NS} {G G' G2:GM} {st st':St} {h h':Hp} {R:Type} {z:Fz} (P:Program)
variable {HA:AM.Hint} {call:CallF} {callA:FuncId→List Value→Hp→Option (Value×Hp)} {H:Hint}
theorem mask_none(hkeep:∀f i,HA.keep f i=none)(f:FuncId)(c:Code)(e:AM.Env) :maskE HA f c e=e:=by
 unfold maskE
 split
 ·rw [hkeep]
 ·rfl
def CodeOK(HA:AM.Hint)(callA:FuncId→List Value→Hp→Option (Value×Hp))(f nt:Nat)(c:Code)(N0 F N:NS)(G:GM)(st:St)(h:Hp)(eA:AM.Env){R:Type}(K:Ex→Env→St→Option R)(q:R) :Prop:=
 ∃ex e' st' F' N' G' eA' h',K ex e' st'=some q∧REvo N0 F N G st h F' N' G' st' h'∧EnvR (fz F' h') G' e' eA'∧∀(S:Type) (KA:Ex→AM.Env→Hp→Option S),codeC P HA callA f nt c S eA h KA=KA ex eA' h'
theorem dsts_ok{nt:Nat}{ops:Array Oper}(hd:dstsOk nt ops=true) :∀o∈ops.toList,o.op.operands.toList.all operandOk=true:=by
 unfold dstsOk at hd
 rw [List.all_eq_true] at hd
 intro o ho
 have:=hd o ho
 simp only [Bool.and_eq_true] at this
 exact this.2
theorem codeV_ok(heq:HA.eqt=H.eqt)(hkeep:∀f i,HA.keep f i=none)(hc:CallOKV call callA)(f w nt:Nat){N0:NS}(c:Code) :∀{R:Type} {q:R} {K:Ex→Env→St→Option R} {F N:NS} {G:GM} {st:St} {h:Hp} {e:Env} {eA:AM.Env},
  codeV P H call f w nt R K e st c=some q→Sm F N G st h→RowsOk N0 F N G st h→EnvR (fz F h) G e eA→CodeOK P HA callA f nt c N0 F N G st h eA K q:=by
 induction c with
 | skip=>intro R q K F N G st h e eA hk s rk he; exact ⟨.normal,e,st,F,N,G,eA,h,hk,(RStep.refl s rk).evo s,he,fun S KA=>rfl⟩
 | label l=>intro R q K F N G st h e eA hk s rk he; exact ⟨.normal,e,st,F,N,G,eA,h,hk,(RStep.refl s rk).evo s,he,fun S KA=>rfl⟩
 | exit i=>intro R q K F N G st h e eA hk s rk he; exact ⟨.exit i,e,st,F,N,G,eA,h,hk,(RStep.refl s rk).evo s,he,fun S KA=>rfl⟩
 | ret=>intro R q K F N G st h e eA hk s rk he; exact ⟨.ret,e,st,F,N,G,eA,h,hk,(RStep.refl s rk).evo s,he,fun S KA=>rfl⟩
 | region id ops draw=>
  intro R q K F N G st h e eA hk s rk he
  unfold codeV at hk
  cases hd:dstsOk nt ops <;>rw [hd] at hk <;>simp only [cond_true,cond_false] at hk
  ·cases hk
  cases draw <;>simp only [cond_true,cond_false] at hk
  ·obtain ⟨e',st',F',N',G',eA',h',h1,x1,h2,h3⟩:=opsV_ok P (ch:=false) heq hc (dsts_ok hd) s rk he hk
   refine ⟨.normal,e',st',F',N',G',eA',h',h1,x1.evo s,h2,fun S KA=> ?_⟩
   unfold codeC
   rw [hd]
   simp only [cond_true,cond_false]
   exact h3 S (KA .normal)
  ·cases ho:okDraw ops <;>rw [ho] at hk <;>simp only [cond_true,cond_false] at hk
   ·cases hk
   cases hnr:noRows st.blks <;>rw [hnr] at hk <;>simp only [cond_true,cond_false] at hk
   ·cases hpd:plainDraw ops <;>rw [hpd] at hk <;>simp only [cond_true,cond_false] at hk
    ·cases hk
    obtain ⟨e',st',F',N',G',eA',h',h1,x1,h2,h3⟩:=opsV_ok P (ch:=true) heq hc (dsts_ok hd) s rk he hk
    refine ⟨.normal,e',st',F',N',G',eA',h',h1,x1.evo s,h2,fun S KA=> ?_⟩
    unfold codeC
    rw [hd,ho]
    simp only [cond_true]
    rw [draw_plain hpd (KA .normal) ops.toList 0 eA h [h] [] rfl rfl rfl]
    exact h3 S (KA .normal)
   obtain ⟨e',st',F',G',eA',h',h1,x1,h2,h3⟩:=drawV_ok P heq hc (l:=ops.toList) (i:=0) (hs:=[h]) (nh:=0) (sts:=[st]) (by simp) (dsts_ok hd) s he rfl rfl ⟨rfl,fun k s' hk'=>(by
    match k,hk' with
    | 0,hk'=>cases hk'; exact ⟨F,G,h,rfl,s,LeG.refl _,Fz.le_refl _⟩
    | k+1,hk'=>simp at hk')⟩ (rsA:=[]) (fun _ _ hm=>(by cases hm)) hk
   refine ⟨.normal,e',st',F',N,G',eA',h',h1,(x1.toR s rk).evo s,h2,fun S KA=> ?_⟩
   unfold codeC
   rw [hd,ho]
   simp only [cond_true]
   exact h3 S (KA .normal)
 | seq a b iha ihb=>
  intro R q K F N G st h e eA hk s rk he
  unfold codeV at hk
  obtain ⟨ex,e1,st1,F1,N1,G1,eA1,h1,k1,x1,he1,k2⟩:=iha hk s rk he
  have hunf:∀(S:Type) (KA:Ex→AM.Env→Hp→Option S),codeC P HA callA f nt (.seq a b) S eA h KA=codeC P HA callA f nt a S eA h (seqK (fun e' h'=>codeC P HA callA f nt b S e' h' KA) KA):=by
   intro S KA
   conv=>lhs; unfold codeC
   simp only [mask_none hkeep]
  cases ex with
  | normal=>
   simp only [seqV] at k1
   obtain ⟨e2,st2,F2,G2,k3,x2,he2⟩:=normE_ok x1.sm he1 k1
   have x2:=x2.toR x1.sm x1.rk
   obtain ⟨ex,e3,st3,F3,N3,G3,eA3,h3,k4,x3,he3,k5⟩:=ihb k3 x2.sm x2.rk he2
   refine ⟨ex,e3,st3,F3,N3,G3,eA3,h3,k4,(x1.trans x2).trans x3,he3,fun S KA=> ?_⟩
   rw [hunf,k2]
   exact k5 S KA
  | exit i=>exact ⟨.exit i,e1,st1,F1,N1,G1,eA1,h1,k1,x1,he1,fun S KA=>by rw [hunf,k2]; rfl⟩
  | ret=>exact ⟨.ret,e1,st1,F1,N1,G1,eA1,h1,k1,x1,he1,fun S KA=>by rw [hunf,k2]; rfl⟩
 | cond x a b iha ihb=>
  intro R q K F N G st h e eA hk s rk he
  unfold codeV at hk
  split at hk
  ·rename_i t
   split at hk
   ·rename_i y hy
    have hd':=he t
    rw [hy] at hd'
    split at hk
    ·rename_i v
     have hb:eA.get t= .bool v:=by
      cases vr_t hd' with
      | one hr=>revert hr; generalize eA.get t=u; intro hr; cases hr; rfl
     have hput:∀bb,EnvR (fz F h) G ((t, .t (.bool bb))::e) ((t, .bool bb)::eA):=fun bb=>EnvR.put he (.t (.bool bb)) (some t)
     split at hk
     ·obtain ⟨e0,st0,F0,G0,k0,x0,he0⟩:=normE_ok s (hput true) hk
      have x0:=x0.toR s rk
      obtain ⟨ex,e1,st1,F1,N1,G1,eA1,h1,k1,x1,he1,k2⟩:=iha k0 x0.sm x0.rk he0
      exact ⟨ex,e1,st1,F1,N1,G1,eA1,h1,k1,x0.trans x1,he1,fun S KA=>by unfold codeC; simp only [hb]; exact k2 S KA⟩
     ·obtain ⟨e0,st0,F0,G0,k0,x0,he0⟩:=normE_ok s (hput false) hk
      have x0:=x0.toR s rk
      obtain ⟨ex,e1,st1,F1,N1,G1,eA1,h1,k1,x1,he1,k2⟩:=ihb k0 x0.sm x0.rk he0
      exact ⟨ex,e1,st1,F1,N1,G1,eA1,h1,k1,x0.trans x1,he1,fun S KA=>by unfold codeC; simp only [hb]; exact k2 S KA⟩
    ·cases hk
   ·cases hk
  ·split at hk
   ·obtain ⟨e0,st0,F0,G0,k0,x0,he0⟩:=normE_ok s he hk
    have x0:=x0.toR s rk
    obtain ⟨ex,e1,st1,F1,N1,G1,eA1,h1,k1,x1,he1,k2⟩:=iha k0 x0.sm x0.rk he0
    exact ⟨ex,e1,st1,F1,N1,G1,eA1,h1,k1,x0.trans x1,he1,fun S KA=>by unfold codeC; exact k2 S KA⟩
   ·obtain ⟨e0,st0,F0,G0,k0,x0,he0⟩:=normE_ok s he hk
    have x0:=x0.toR s rk
    obtain ⟨ex,e1,st1,F1,N1,G1,eA1,h1,k1,x1,he1,k2⟩:=ihb k0 x0.sm x0.rk he0
    exact ⟨ex,e1,st1,F1,N1,G1,eA1,h1,k1,x0.trans x1,he1,fun S KA=>by unfold codeC; exact k2 S KA⟩
  ·cases hk
 | block id b ih=>
  intro R q K F N G st h e eA hk s rk he
  unfold codeV at hk
  obtain ⟨ex,e1,st1,F1,N1,G1,eA1,h1,k1,x1,he1,k2⟩:=ih hk s rk he
  cases ex with
  | normal=>exact ⟨.normal,e1,st1,F1,N1,G1,eA1,h1,k1,x1,he1,fun S KA=>by unfold codeC; rw [k2]; rfl⟩
  | exit i=>
   simp only [blockV] at k1
   cases hi:i==id <;>rw [hi] at k1
   ·exact ⟨.exit i,e1,st1,F1,N1,G1,eA1,h1,k1,x1,he1,fun S KA=>by unfold codeC; rw [k2]; simp only [blockK,hi,cond_false]⟩
   ·exact ⟨.normal,e1,st1,F1,N1,G1,eA1,h1,k1,x1,he1,fun S KA=>by unfold codeC; rw [k2]; simp only [blockK,hi,cond_true]⟩
  | ret=>exact ⟨.ret,e1,st1,F1,N1,G1,eA1,h1,k1,x1,he1,fun S KA=>by unfold codeC; rw [k2]; rfl⟩
 | loop b ih=>
  intro R q K F N G st h e eA hk s rk he
  have hleq:∀(eA:AM.Env) (h:Hp) (S:Type) (KA:Ex→AM.Env→Hp→Option S),codeC P HA callA f nt (.loop b) S eA h KA=codeC P HA callA f nt b S eA h (seqK (fun e' h'=>codeC P HA callA f nt (.loop b) S e' h' KA) KA):=by
   intro eA h S KA
   rw [loop_eq]
   simp only [mask_none hkeep]
  unfold codeV at hk
  split at hk
  ·obtain ⟨r0,hr0,hk⟩:=Option.bind_eq_some_iff.1 hk
   obtain ⟨n,hn⟩:=lfp_some hr0
   have key:∀(n:Nat) {F N:NS} {G:GM} {st:St} {h:Hp} {e:Env} {eA:AM.Env},loopVN (fun e st=>codeV P H call f w nt Out (seqV (fun e st=>normE H f w b e st fun e st=>some (.normal,e,st)) fun ex e st=>some (ex,e,st)) e st b) n e st=some r0→Sm F N G st h→RowsOk N0 F N G st h→EnvR (fz F h) G e eA→
     ∃F' N' G' eA' h',REvo N0 F N G st h F' N' G' r0.2.2 h'∧EnvR (fz F' h') G' r0.2.1 eA'∧∀(S:Type) (KA:Ex→AM.Env→Hp→Option S),codeC P HA callA f nt (.loop b) S eA h KA=KA r0.1 eA' h':=by
    intro n
    induction n with
    | zero=>intro F N G st h e eA hn; cases hn
    | succ n ihn=>
     intro F N G st h e eA hn s rk he
     rw [loopVN] at hn
     obtain ⟨r1,hr1,hn⟩:=Option.bind_eq_some_iff.1 hn
     obtain ⟨ex,e1,st1,F1,N1,G1,eA1,h1,k1,x1,he1,k2⟩:=ih hr1 s rk he
     cases ex with
     | normal=>
      simp only [seqV] at k1
      obtain ⟨e2,st2,F2,G2,k3,x2,he2⟩:=normE_ok x1.sm he1 k1
      cases k3
      have x2:=x2.toR x1.sm x1.rk
      obtain ⟨F3,N3,G3,eA3,h3,x3,he3,k4⟩:=ihn hn x2.sm x2.rk he2
      exact ⟨F3,N3,G3,eA3,h3,(x1.trans x2).trans x3,he3,fun S KA=>by rw [hleq,k2]; exact k4 S KA⟩
     | exit i=>
      simp only [seqV,Option.some.injEq] at k1
      subst k1
      simp only [Option.some.injEq] at hn
      subst hn
      exact ⟨F1,N1,G1,eA1,h1,x1,he1,fun S KA=>by rw [hleq,k2]; rfl⟩
     | ret=>
      simp only [seqV,Option.some.injEq] at k1
      subst k1
      simp only [Option.some.injEq] at hn
      subst hn
      exact ⟨F1,N1,G1,eA1,h1,x1,he1,fun S KA=>by rw [hleq,k2]; rfl⟩
   obtain ⟨F',N',G',eA',h',x,he',hall⟩:=key n hn s rk he
   exact ⟨r0.1,r0.2.1,r0.2.2,F',N',G',eA',h',hk,x,he',hall⟩
  ·rename_i n0 _
   have key:∀(n:Nat) {F N:NS} {G:GM} {st:St} {h:Hp} {e:Env} {eA:AM.Env},iterU (fun e st K=>codeV P H call f w nt R (seqV (fun e st=>normE H f w b e st (K .normal)) K) e st b) K n e st=some q→Sm F N G st h→RowsOk N0 F N G st h→EnvR (fz F h) G e eA→CodeOK P HA callA f nt (.loop b) N0 F N G st h eA K q:=by
    intro n
    induction n with
    | zero=>intro F N G st h e eA hn; cases hn
    | succ n ihn=>
     intro F N G st h e eA hn s rk he
     rw [iterU] at hn
     obtain ⟨ex,e1,st1,F1,N1,G1,eA1,h1,k1,x1,he1,k2⟩:=ih hn s rk he
     cases ex with
     | normal=>
      simp only [seqV] at k1
      obtain ⟨e2,st2,F2,G2,k3,x2,he2⟩:=normE_ok x1.sm he1 k1
      have x2:=x2.toR x1.sm x1.rk
      obtain ⟨ex,e3,st3,F3,N3,G3,eA3,h3,k4,x3,he3,k5⟩:=ihn k3 x2.sm x2.rk he2
      exact ⟨ex,e3,st3,F3,N3,G3,eA3,h3,k4,(x1.trans x2).trans x3,he3,fun S KA=>by rw [hleq,k2]; exact k5 S KA⟩
     | exit i=>exact ⟨.exit i,e1,st1,F1,N1,G1,eA1,h1,k1,x1,he1,fun S KA=>by rw [hleq,k2]; rfl⟩
     | ret=>exact ⟨.ret,e1,st1,F1,N1,G1,eA1,h1,k1,x1,he1,fun S KA=>by rw [hleq,k2]; rfl⟩
   exact key _ hk s rk he
 | rangeFunc=>intro R q K F N G st h e eA hk; cases hk
 | scope b ih=>
  intro R q K F N G st h e eA hk s rk he
  unfold codeV at hk
  obtain ⟨ex,e1,st1,F1,N1,G1,eA1,h1,k1,x1,he1,k2⟩:=ih hk s rk he
  exact ⟨ex,e1,st1,F1,N1,G1,eA1,h1,k1,x1,he1,fun S KA=>by unfold codeC; exact k2 S KA⟩
 | goto=>intro R q K F N G st h e eA hk; cases hk
 | refuse=>intro R q K F N G st h e eA hk; cases hk
theorem resV_ok{q:R}(s:Sm F N G st h){e:Env}{eA:AM.Env}(he:EnvR (fz F h) G e eA) :∀{rs:List ResultVar} {K:List V→Option R},resV P st e rs K=some q→
  ∃vs us,K vs=some q∧VRs (fz F h) G vs us∧∀(S:Type) (KA:List Value→Option S),resC P h eA rs KA=KA us
 | [],K,hk=>⟨[],[],hk, .nil,fun S KA=>rfl⟩
 | .tmp t::rs,K,hk=>by
  rw [resV] at hk
  obtain ⟨vs,us,h1,h2,h3⟩:=resV_ok s he hk
  exact ⟨_,_,h1, .cons (he t) h2,fun S KA=>by rw [resC,h3]⟩
 | .cell a t::rs,K,hk=>by
  rw [resV] at hk
  have ha:=he a
  split at hk
  ·rename_i id i off hx
   rw [hx] at ha
   split at hk
   ·rename_i b hg
    obtain ⟨p,zv,ti,hp,hk⟩:=tpC_some P hk
    obtain ⟨v,w,ad,h1,h2,h3,h4⟩:=ldB_ok P s hg (Fz.le_refl _) ha hp hk
    obtain ⟨vs,us,h5,h6,h7⟩:=resV_ok s he h2
    refine ⟨_,_,h5, .cons h3 h6,fun S KA=> ?_⟩
    rw [resC,h1]
    unfold asPtrC
    simp only
    rw [h4,h7]
   ·cases hk
  ·cases hk
theorem formsC_ok{q:R} :∀{vs:List V} {us:List Value} {mid k:Nat} {F:NS} {G:GM} {st:St} {K:List V→St→Option R},Sm F N G st h→VRs (fz F h) G vs us→formsC mid vs k st K=some q→
  ∃vs' st' F' G',K vs' st'=some q∧Step F N G st h F' G' st' h∧VRs (fz F' h) G' vs' us
 | [],us,mid,k,F,G,st,K,s,hv,hk=>by
  cases hv
  exact ⟨[],st,F,G,hk,Step.refl s, .nil⟩
 | v::vs,us,mid,k,F,G,st,K,s,hv,hk=>by
  cases hv with
  | cons a b=>
   rw [formsC] at hk
   obtain ⟨v',st1,F1,G1,h1,x1,h2,_⟩:=formC_ok s (Fz.le_refl _) a hk
   obtain ⟨vs',st2,F2,G2,h3,x2,h4⟩:=formsC_ok x1.sm (b.mono x1.le x1.g) h1
   exact ⟨_,st2,F2,G2,h3,x1.trans x2, .cons (x2.vr h2) h4⟩
theorem srs_vrs{z:Fz}{G:GM} :∀{cs:List T} {us:List Value},SRs z cs us→VRs z G (cs.map .t) us
 | [],_,h=>by cases h; exact .nil
 | _::_,_,h=>by
  cases h with
  | cons a b=>exact .cons (.t a) (srs_vrs b)
theorem outAggC_ok{q:R}(s:Sm F N G st h){k mid:Nat}{v:V}{u:Value}(hv:VR (fz F h) G v u){K:V→St→Option R}(hk:outAggC k mid v st K=some q) :
  ∃v' st' F' G',K v' st'=some q∧Step F N G st h F' G' st' h∧VR (fz F' h) G' v' u:=by
 unfold outAggC at hk
 cases v <;>simp only at hk <;>first | (cases hk; done) | skip
 ·rename_i x
  cases x <;>simp only at hk <;>first | (cases hk; done) | skip
  cases vr_t hv with
  | one hr=>cases hr
  | agg hcs=>
   obtain ⟨vs',st1,F1,G1,h1,x1,h2⟩:=formsC_ok s (srs_vrs hcs) hk
   exact ⟨_,st1,F1,G1,h1,x1, .agg h2⟩
 ·cases hv with
  | agg hcs=>
   obtain ⟨vs',st1,F1,G1,h1,x1,h2⟩:=formsC_ok s hcs hk
   exact ⟨_,st1,F1,G1,h1,x1, .agg h2⟩
theorem outC_ok{q:R}(s:Sm F N G st h){own mid:Nat}{v:V}{u:Value}(hv:VR (fz F h) G v u){K:V→St→Option R}(hk:outC own mid v st K=some q) :
  ∃v' st' F' G',K v' st'=some q∧Step F N G st h F' G' st' h∧VR (fz F' h) G' v' u:=by
 unfold outC at hk
 split at hk
 ·split at hk
  ·obtain ⟨x,st1,F1,h1,x1,h2⟩:=closeF_ok s (Fz.le_refl _) hv hk
   exact ⟨_,st1,F1,G,h1,x1,tr_v h2⟩
  ·exact ⟨v,st,F,G,hk,Step.refl s,hv⟩
 ·rename_i o
  cases ho:Nat.ble 999 o <;>rw [ho] at hk
  ·obtain ⟨v',st',G',h1,h2,h3,_⟩:=toBuf_ok s (Fz.le_refl _) hv hk
   exact ⟨v',st',F,G',h1,h2,h3⟩
  ·exact outAggC_ok s hv hk
theorem outsC_ok{q:R} :∀{vs:List V} {us:List Value} {i:Nat} {own:List Nat} {F:NS} {G:GM} {st:St} {K:List V→St→Option R},Sm F N G st h→VRs (fz F h) G vs us→outsC i vs own st K=some q→
  ∃vs' st' F' G',K vs' st'=some q∧Step F N G st h F' G' st' h∧VRs (fz F' h) G' vs' us
 | [],us,i,own,F,G,st,K,s,hv,hk=>by
  cases hv
  exact ⟨[],st,F,G,hk,Step.refl s, .nil⟩
 | v::vs,us,i,own,F,G,st,K,s,hv,hk=>by
  cases hv with
  | cons a b=>
   rw [outsC] at hk
   obtain ⟨v',st1,F1,G1,h1,x1,h2⟩:=outC_ok s a hk
   obtain ⟨vs',st2,F2,G2,h3,x2,h4⟩:=outsC_ok x1.sm (b.mono x1.le x1.g) h1
   exact ⟨_,st2,F2,G2,h3,x1.trans x2, .cons (x2.vr h2) h4⟩
theorem finV_one(s:Sm F N G st h){v0:V}{u0:Value}(hv1:VR (fz F h) G v0 u0)(met:List Nat) :
  ∃G',Evo F N G st h F G' ⟨packB (outN met) st.blks met,(List.range met.length).map (500+ ·)⟩ h∧VR (fz F h) G' (ren3 (outN met) st.blks v0) u0:=by
 obtain ⟨G3,hn,x3⟩:=evo_pack s (met:=met) (base:=500) (σ:=outN met) (us:=(List.range met.length).map (500+ ·)) (by omega) (fun id h=>by
  unfold outN; rw [Nat.ble_eq_true_of_le h]; rfl) (fun id h=>by
  unfold outN
  have:Nat.ble 8 id=false:=by
   cases h8:Nat.ble 8 id
   ·rfl
   ·have:=Nat.le_of_ble_eq_true h8; omega
  rw [this]
  cases hc:met.contains id
  ·have:id∉met:=by simpa using hc
   simp [this]
  ·have:id∈met:=by simpa using hc
   simp [this]) (fun j h1 h2=> .inr (List.mem_map.2 ⟨j - 500,List.mem_range.2 (by omega),by omega⟩))
 exact ⟨G3,x3,ren3_ok s hn (Fz.le_refl _) hv1⟩
theorem finV0_ok(s:Sm F N G st h){own:List Nat}{vs:List V}{us:List Value}(hv:VRs (fz F h) G vs us){v:V}{st':St}(hk:finV0 own vs st=some (v,st')) :
  ∃F' G',Evo F N G st h F' G' st' h∧VR (fz F' h) G' v (match us with | [u]=>u | us=> .tuple us.toArray):=by
 unfold finV0 at hk
 obtain ⟨vs1,st1,F1,G1,h1,x1,h2⟩:=outsC_ok s hv hk
 cases h2 with
 | nil=>
  cases h1
  obtain ⟨G3,x3,h4⟩:=finV_one x1.sm (v0:= .tup []) (u0:= .tuple #[]) (.tup .nil) _
  exact ⟨F1,G3,(x1.evo s).trans x3,h4⟩
 | cons a b=>
  cases b with
  | nil=>
   cases h1
   obtain ⟨G3,x3,h4⟩:=finV_one x1.sm a _
   exact ⟨F1,G3,(x1.evo s).trans x3,h4⟩
  | cons b c=>
   cases h1
   obtain ⟨G3,x3,h4⟩:=finV_one x1.sm (.tup (a:=(_::_::_:List Value).toArray) (by simpa using VRs.cons a (.cons b c))) _
   exact ⟨F1,G3,(x1.evo s).trans x3,h4⟩
theorem firstRows_none :∀{bs:Bs},firstRows bs=none→∀id b,bs.get id=some b→isRows b=false
 | [],_,id,b,h=>by cases h
 | (i,x)::bs,h,id,b,hg=>by
  unfold firstRows at h
  cases hx:isRows x <;>rw [hx] at h <;>simp only [cond_true,cond_false] at h
  ·rw [get_cons] at hg
   split at hg
   ·cases hg; exact hx
   ·exact firstRows_none h id b hg
  ·cases h
theorem unrows_ok{N0:NS}{q:R}(s:Sm F N G st h)(rk:RowsOk N0 F N G st h){K:St→Option R}(hk:unrows st K=some q) :
  ∃st' F' N',K st'=some q∧RStep N0 F N G st h F' N' G st' h∧∀id b,st'.blks.get id=some b→isRows b=false:=by
 unfold unrows at hk
 split at hk
 ·rename_i id _
  split at hk
  ·rename_i b hb
   split at hk
   ·rename_i sz l
    unfold treesC at hk
    split at hk
    ·rename_i ts hts
     obtain ⟨F',N',x⟩:=un_rows s rk hb hts
     refine ⟨_,F',N',hk,x,fun q b hq=> ?_⟩
     rcases set_get hb hq with ⟨_,rfl⟩ | ⟨hne,hq⟩
     ·rfl
     ·cases hr:isRows b with
      | false=>rfl
      | true=>exact absurd (rk.one _ _ _ _ hq hb hr rfl) hne
    ·cases hk
   ·cases hk
  ·cases hk
 ·rename_i hn
  exact ⟨st,F,N,hk,RStep.refl s rk,firstRows_none hn⟩
theorem finV_ok{N0:NS}(s:Sm F N G st h)(rk:RowsOk N0 F N G st h){own:List Nat}{vs:List V}{us:List Value}(hv:VRs (fz F h) G vs us){v:V}{st':St}(hk:finV own vs st=some (v,st')) :
  ∃F' N' G',REvo N0 F N G st h F' N' G' st' h∧VR (fz F' h) G' v (match us with | [u]=>u | us=> .tuple us.toArray)∧∀id b,st'.blks.get id=some b→isRows b=false:=by
 unfold finV at hk
 obtain ⟨st1,F1,N1,h1,x1,hno⟩:=unrows_ok s rk hk
 obtain ⟨F2,G2,x2,h2⟩:=finV0_ok x1.sm (hv.mono x1.le x1.g) h1
 refine ⟨F2,N1,G2,(x1.evo s).trans (x2.toR x1.sm x1.rk),(by cases us with | nil=>exact h2 | cons a l=>cases l <;>exact h2),fun id b hb=> ?_⟩
 cases hr:isRows b with
 | false=>rfl
 | true=>
  obtain ⟨id0,g,e1,_⟩:=x2.rows id b hb hr
  rw [hno id0 b e1] at hr
  cases hr
theorem Sm.anti{N1:NS}(s:Sm F N G st h)(hs:∀r,N1 r→N r) :Sm F N1 G st h:=
 ⟨s.ok,fun r hr=>s.fLt r (hr.imp (fun h=>h) (hs r)),fun id b hb=>by
  obtain ⟨r,h1,h2⟩:=s.blk id b hb
  exact ⟨r,h1,h2⟩,s.inj,fun id b r k h1 h2 h3=>by
  obtain ⟨a1,a2,a3⟩:=s.apart id b r k h1 h2 h3
  exact ⟨a1,fun h=>a2 (hs _ h),fun c hc q hq=>let ⟨b1,b2,b3,b4⟩:=a3 c hc q hq; ⟨b1,b2,fun h=>b3 (hs _ h),b4⟩⟩,s.gUsed⟩
theorem rown_none(hn:noRows st.blks=true){q:Nat} :¬ROwn G st h q:=by
 rintro ⟨id,sz,l,r,k,c,h1,_⟩
 have:=noRows_get hn h1
 cases this
theorem REvo.out(x:REvo N F N G st h F' N' G' st' h')(hn:noRows st.blks=true)(hno:∀id b,st'.blks.get id=some b→isRows b=false) :Evo F N G st h F' G' st' h':=by
 have own:∀q,Own G st h q→NOwn G st q:=fun q hq=>hq.elim (fun h=>h) fun h=>absurd h (rown_none hn)
 refine ⟨x.sm.anti x.rk.sub,x.f,x.ext,fun L hL=>(x.lw L ⟨hL,fun q hq=>absurd hq (rown_none hn)⟩).lw,fun id b r k h1 h2 h3=> ?_,x.ids,fun r hr=> ?_,fun id b h1 h2=> ?_,fun _ id1 b1 id2 b2 g1 g2 r1 r2=> ?_⟩
 ·rcases x.ori r (.inl ⟨id,b,k,h1,h2,h3⟩) with h | h
  ·exact .inl h
  ·exact .inr (own r h)
 ·rcases x.fo r hr with h | h | h
  ·exact .inl h
  ·exact .inr (.inl h)
  ·exact .inr (.inr (own r h))
 ·rw [hno id b h1] at h2; cases h2
 ·rw [hno id1 b1 g1] at r1; cases r1
theorem envV_get :∀(as:List V) (k t:Nat),(envV as k).get t=if k≤t then (as[t - k]?).getD .junk else .junk
 | [],k,t=>by simp [envV,Env.get]
 | v::vs,k,t=>by
  simp only [envV,Env.get]
  rw [envV_get vs (k+1) t]
  by_cases h:k=t
  ·subst h; simp
  ·have h1:(k==t)=false:=by simpa using h
   rw [h1,cond_false]
   by_cases h2:k+1≤t
   ·rw [if_pos h2,if_pos (by omega)]
    have:t - k=(t - (k+1))+1:=by omega
    rw [this,List.getElem?_cons_succ]
   ·rw [if_neg h2]
    split
    ·omega
    ·rfl
theorem envV_ok{as:List V}{us:List Value}(hv:VRs z G as us) :EnvR z G (envV as 0) (envFrom us 0):=by
 intro t
 rw [envV_get,AM.envFrom_get]
 simp only [Nat.zero_le,if_true,Nat.sub_zero]
 cases ht:as[t]? with
 | none=>exact .junk _
 | some v=>
  obtain ⟨u,h1,h2⟩:=hv.all.get ht
  rw [h1]
  exact h2
structure OvV (P:Program) (H:Hint) (HA:AM.Hint):Prop where
 no:∀f,H.isOv f=false→HA.isOv f=false
 yes:∀k call f as v,H.isOv f=true→H.ov call f as=some v→CallOKV call (aN P HA k)→∀(F N:NS) (G:GM) (h:Hp) (us:List Value),Sm F N G ⟨[],[]⟩ h→(∀id g,G id=some g→id<8)→VRs (fz F h) G as us→
  ∃F' G' u h',aN P HA (k+1) f us h=some (u,h')∧Evo F N G ⟨[],[]⟩ h F' G' ⟨[],[]⟩ h'∧VR (fz F' h') G' v u
theorem ov_plain{F N:NS}{G:GM}{h:Hp}(s:Sm F N G ⟨[],[]⟩ h) :Evo F N G ⟨[],[]⟩ h F G ⟨[],[]⟩ h:=
 (Step.refl s).evo s
theorem Sm.empty{F N:NS}{G:GM}{st:St}{h:Hp}(s:Sm F N G st h)(hG:∀id g,G id=some g→id<8)(us:List Nat) :Sm F N G ⟨[],us⟩ h:=
 ⟨s.ok,s.fLt,fun id b hb=>(by cases hb),fun id1 b1 id2 b2 r k1 k2 g1=>(by cases g1),fun id b r k g1=>(by cases g1),fun id g' hg'=> .inl (by have:=hG id g' hg'; omega)⟩
theorem vN_ok(heq:HA.eqt=H.eqt)(hkeep:∀f i,HA.keep f i=none)(hov:OvV P H HA) :∀k,CallOKV (vN P H k) (aN P HA k)
 | 0=>fun _ _ _ _ _ _ hk=>by cases hk
 | k+1=>fun g w as st v st' hk F N G h us s hG hv=>by
  unfold vN at hk
  cases ho:H.isOv g with
  | true=>
   rw [ho] at hk
   simp only [cond_true] at hk
   split at hk
   ·rename_i v1 hv1
    cases he:st.blks.isEmpty <;>rw [he] at hk <;>simp only [cond_true,cond_false] at hk
    ·cases hk
    ·cases hk
     have he':st.blks=[]:=by simpa using he
     obtain ⟨F',G',u,h',h1,x,h2⟩:=hov.yes k _ g as _ ho hv1 (vN_ok heq hkeep hov k) F N G h us (s.empty hG []) hG hv
     refine ⟨F',G',u,h',h1,⟨x.sm,x.f,x.ext,fun L hL=>x.lw L ⟨hL.low,hL.next,fun id b r k g1=>(by cases g1)⟩,fun id b r k g1=>(by cases g1),fun id b g1=>(by cases g1),fun r hr=> ?_,fun id b g1=>(by cases g1),fun _ id1 b1 id2 b2 g1=>(by cases g1)⟩,h2⟩
     rcases x.fo r hr with h | h | ⟨id,b,k,g1,_⟩
     ·exact .inl h
     ·exact .inr (.inl h)
     ·cases g1
   ·cases hk
  | false=>
  rw [ho] at hk
  simp only [cond_false] at hk
  have hk':funV P H (vN P H k) g w as st=some (v,st'):=hk
  have hA:aN P HA (k+1) g us h=funC P HA (aN P HA k) g us h:=by
   conv=>lhs; unfold aN
   rw [hov.no g ho]
   rfl
  unfold funV at hk'
  split at hk'
  ·rename_i fn hfn
   split at hk'
   ·rename_i c hc
    cases hn0 : (fn.name == "runtime.NumGoroutine" || !noRows st.blks) <;> rw [hn0] at hk' <;> simp only [cond_true, cond_false] at hk'
    ·simp only [Bool.or_eq_false_iff,Bool.not_eq_false'] at hn0
     obtain ⟨hn,hnr⟩:=hn0
     have rk0:RowsOk N F N G st h:=RowsOk.none (fun _ h=>h) hnr
     obtain ⟨e1,st1,F1,G1,k1,x1,he1⟩:=normE_ok s (envV_ok hv) hk'
     have x1:=x1.toR s rk0
     obtain ⟨ex,e2,st2,F2,N2,G2,eA2,h2,k2,x2,he2,k3⟩:=codeV_ok P heq hkeep (vN_ok heq hkeep hov k) g w _ c k1 x1.sm x1.rk he1
     have fin:∀(hex:∀(KA:Ex→AM.Env→Hp→Option (Value×Hp)),KA=resK P fn→KA ex eA2 h2=resC P h2 eA2 fn.results.toList fun vs=>match vs with | [v]=>some (v,h2) | vs=>some (.tuple vs.toArray,h2)),(resV P st2 e2 fn.results.toList fun vs=>finV (H.own g w) vs st2)=some (v,st')→
       ∃F' G' u h',aN P HA (k+1) g us h=some (u,h')∧Evo F N G st h F' G' st' h'∧VR (fz F' h') G' v u:=by
      intro hex hr
      obtain ⟨vs,ws,j1,j2,j3⟩:=resV_ok P x2.sm he2 hr
      obtain ⟨F3,N3,G3,x3,hv3,hno⟩:=finV_ok x2.sm x2.rk j2 j1
      refine ⟨F3,G3,_,h2, ?_,((x1.trans x2).trans x3).out hnr hno,hv3⟩
      rw [hA]
      unfold funC
      simp only [hfn,hc,hn,cond_false]
      rw [←hv.all.length,k3,hex _ rfl,j3]
      cases ws with
      | nil=>rfl
      | cons w ws=>cases ws <;>rfl
     cases ex with
     | normal=>exact fin (fun KA e=>by subst e; rfl) k2
     | exit i=>cases k2
     | ret=>exact fin (fun KA e=>by subst e; rfl) k2
    ·cases hk'
   ·cases hk'
  ·cases hk'
theorem vrun_ok(heq:HA.eqt=H.eqt)(hkeep:∀f i,HA.keep f i=none)(hov:OvV P H HA) :CallOKV (vrun P H) (arun P HA):=fun g w as st v st' hk F N G h us s hG hv=>by
 obtain ⟨k,hk⟩:=vrun_some P H hk
 obtain ⟨F',G',u,h',h1,h2,h3⟩:=vN_ok P heq hkeep hov k g w as st v st' hk F N G h us s hG hv
 exact ⟨F',G',u,h',arun_of P HA k g us h (u,h') h1,h2,h3⟩
end
end Go.Proofs.Ytpfploolkmcalaa.VM
end
