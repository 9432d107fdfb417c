/- Merged: Am8 Am9 Am10 Am11 Am12 Am13 Am14. Conditions: none. -/
import Derived.Test.YtpfploolkmcalaaAmA
import Derived.Laws.Strings
import Derived.Deep.Upon
set_option linter.all false
section
namespace Go.Proofs.Ytpfploolkmcalaa.AM
open Go Go.RowKit
set_option linter.unusedSectionVars false
set_option linter.unusedSimpArgs false
set_option linter.unusedVariables false
section
variable {R:Type} {r:R} {P:Program}
theorem asIntC_some{k:IntKind}{v:Value}{K:Int→Option R}(h:asIntC k v K=some r) :∃n,v= .int k n∧K n=some r:=by
 cases v <;>try cases h
 rename_i k' n
 unfold asIntC at h
 dsimp only at h
 by_cases e:k'=k
 ·subst e; exact ⟨n,rfl,by simpa using h⟩
 ·simp [e] at h
theorem asBoolC_some{v:Value}{K:Bool→Option R}(h:asBoolC v K=some r) :∃n,v= .bool n∧K n=some r:=by
 cases v <;>first | (cases h; done) | exact ⟨_,rfl,h⟩
theorem asStrC_some{v:Value}{K:ByteArray→Option R}(h:asStrC v K=some r) :∃n,v= .string n∧K n=some r:=by
 cases v <;>first | (cases h; done) | exact ⟨_,rfl,h⟩
theorem asSliceC_some{v:Value}{K:Option Addr→Nat→Nat→Option R}(h:asSliceC v K=some r) :∃a n c,v= .slice a n c∧K a n c=some r:=by
 cases v <;>first | (cases h; done) | exact ⟨_,_,_,rfl,h⟩
theorem asPtrC_some{v:Value}{K:Option Addr→Option R}(h:asPtrC v K=some r) :∃a,v= .pointer a∧K a=some r:=by
 cases v <;>first | (cases h; done) | exact ⟨_,rfl,h⟩
theorem asMapC_some{v:Value}{K:Option Nat→Option R}(h:asMapC v K=some r) :∃a,v= .map a∧K a=some r:=by
 cases v <;>first | (cases h; done) | exact ⟨_,rfl,h⟩
theorem asAggC_some{v:Value}{K:List Value→Option R}(h:asAggC v K=some r) :∃cs,v= .agg cs∧K cs.toList=some r:=by
 cases v <;>first | (cases h; done) | exact ⟨_,rfl,h⟩
theorem sizeC_some{t:TypeId}{K:Nat→Option R}(h:sizeC P t K=some r) :∃i,P.info? t=some i∧K i.size=some r:=by
 unfold sizeC at h
 split at h
 ·exact ⟨_,by assumption,h⟩
 ·cases h
theorem zeroC_some{t:TypeId}{K:Value→Option R}(h:zeroC P t K=some r) :∃i z,P.info? t=some i∧i.zero=some z∧plainC z=true∧K z=some r:=by
 unfold zeroC at h
 split at h
 ·split at h
  ·obtain ⟨hb,hk⟩:=needC_some h
   exact ⟨_,_,by assumption,by assumption,hb,hk⟩
  ·cases h
 ·cases h
theorem elemC_some{t:TypeId}{K:TypeId→Option R}(h:elemC P t K=some r) :∃e,P.underlying t=some (.slice e)∧K e=some r:=by
 unfold elemC at h
 split at h
 ·exact ⟨_,by assumption,h⟩
 ·cases h
theorem like1C_some{z v:Value}{K:Value→Option R}(h:like1C z v K=some r) :K v=some r:=by
 cases z <;>simp only [like1C] at h <;>first
  | exact h
  | (obtain ⟨_,rfl,hk⟩:=asIntC_some h; exact hk)
  | (obtain ⟨_,rfl,hk⟩:=asBoolC_some h; exact hk)
  | (obtain ⟨_,rfl,hk⟩:=asStrC_some h; exact hk)
  | (obtain ⟨_,_,_,rfl,hk⟩:=asSliceC_some h; exact hk)
  | (obtain ⟨_,rfl,hk⟩:=asPtrC_some h; exact hk)
  | (obtain ⟨_,rfl,hk⟩:=asMapC_some h; exact hk)
theorem likeCellsC_some :∀{zs vs:List Value} {K:List Value→Option R},likeCellsC zs vs K=some r→K vs=some r∧zs.length=vs.length
 | [],[],K,h=>⟨h,rfl⟩
 | [],_::_,K,h=>by cases h
 | _::_,[],K,h=>by cases h
 | z::zs,v::vs,K,h=>by
  simp only [likeCellsC,consC] at h
  obtain ⟨a,b⟩:=likeCellsC_some (like1C_some h)
  exact ⟨a,by simp [b]⟩
theorem like2C_some{z v:Value}{K:Value→Option R}(h:like2C z v K=some r) :K v=some r:=by
 unfold like2C at h
 split at h
 ·obtain ⟨cs,rfl,hk⟩:=asAggC_some h
  have:=(likeCellsC_some hk).1
  simpa using this
 ·exact like1C_some h
theorem likePartsC_some :∀{zs vs:List Value} {K:List Value→Option R},likePartsC zs vs K=some r→K vs=some r
 | [],[],K,h=>h
 | [],_::_,K,h=>by cases h
 | _::_,[],K,h=>by cases h
 | z::zs,v::vs,K,h=>by
  simp only [likePartsC,consC] at h
  exact likePartsC_some (K:=fun us=>K (v::us)) (like2C_some h)
theorem like3C_some{z v:Value}{K:Value→Option R}(h:like3C z v K=some r) :K v=some r:=by
 unfold like3C at h
 split at h
 ·split at h
  ·have:=likePartsC_some h
   simpa using this
  ·cases h
 ·exact like2C_some h
theorem ldC_some{h:Hp}{z:Value}{a:Addr}{K:Value→Option R}(hk:h.ldC z a K=some r) :∃v,h.cell a=some v∧K v=some r:=by
 unfold Hp.ldC at hk
 split at hk
 ·exact ⟨_,by assumption,like1C_some hk⟩
 ·cases hk
theorem ldCellsC_some{h:Hp}{a:Addr} :∀{zs:List Value} {i:Nat} {K:List Value→Option R},h.ldCellsC a zs i K=some r→
  ∃vs,vs.length=zs.length∧(∀(j:Nat) (v:Value),vs[j]? =some v→h.cell (a.add (i+j))=some v)∧K vs=some r
 | [],i,K,hk=>⟨[],rfl,fun j v hv=>by simp at hv,hk⟩
 | z::zs,i,K,hk=>by
  rw [Hp.ldCellsC] at hk
  obtain ⟨v,hv,hk⟩:=ldC_some hk
  obtain ⟨vs,hl,hvs,hk⟩:=ldCellsC_some hk
  refine ⟨v::vs,by simp [hl], ?_,hk⟩
  intro j u hu
  cases j with
  | zero=>simp at hu; subst hu; exact hv
  | succ j=>have:=hvs j u (by simpa using hu); rwa [show i+1+j=i+(j+1) by omega] at this
theorem rawCells_some{h:Hp}{a:Addr} :∀{n i:Nat} {vs:List Value},h.rawCells a i n=some vs→vs.length=n∧∀(j:Nat) (v:Value),vs[j]? =some v→h.cell (a.add (i+j))=some v
 | 0,i,vs,hk=>by cases hk; exact ⟨rfl,fun j v hv=>by simp at hv⟩
 | n+1,i,vs,hk=>by
  rw [Hp.rawCells] at hk
  split at hk
  ·rename_i v hv
   obtain ⟨us,hus,rfl⟩:=Option.map_eq_some_iff.1 hk
   obtain ⟨hl,hg⟩:=rawCells_some hus
   refine ⟨by simp [hl], ?_⟩
   intro j u hu
   cases j with
   | zero=>simp at hu; subst hu; exact hv
   | succ j=>have:=hg j u (by simpa using hu); rwa [show i+1+j=i+(j+1) by omega] at this
  ·cases hk
theorem aggC_some{t:TypeId}{K:Bool→Option R}(h:aggC P t K=some r) :∃b,(∀w,(isAgg t).run P w= .ok b w)∧K b=some r:=by
 unfold aggC at h
 split at h
 ·rename_i fs hu
  exact ⟨true,fun w=>by simp [isAgg,run_underlying hu],h⟩
 ·rename_i n e hu
  exact ⟨true,fun w=>by simp [isAgg,run_underlying hu],h⟩
 ·rename_i d h1 h2 hu
  refine ⟨false,fun w=> ?_,h⟩
  simp only [isAgg,Sem.run_bind,run_underlying hu,Result.andThen_ok]
  rfl
 ·cases h
end
section
variable {B:Nat} {W:World} {ρ:Places} {h h':Hp} {w:World} {P:Program} {R:Type} {r:R}
def Post(B:Nat)(W:World)(ρ:Places)(h':Hp)(v:Value)(v':Value)(w':World) :Prop:=∃ρ',LeP ρ ρ'∧Sim B W ρ' h' w'∧VRel B ρ' v v'
theorem Post.same(s:Sim B W ρ h w){v v':Value}(hr:VRel B ρ v v') :Post B W ρ h v v' w:=⟨ρ,LeP.refl ρ,s,hr⟩
theorem Sim.cells(s:Sim B W ρ h w){a a':Addr}(ha:ARel B ρ a a'){vs:List Value}(hv:∀(j:Nat) (v:Value),vs[j]? =some v→h.cell (a.add (0+j))=some v) :
  ∃vs',VRels B ρ vs vs'∧∀(j:Nat) (v:Value),vs'[j]? =some v→w.cell? (a'.add j)=some v:=by
 have:∀(n:Nat) (i:Nat) (us:List Value),us.length=n→(∀(j:Nat) (v:Value),us[j]? =some v→h.cell (a.add (i+j))=some v)→∃us',VRels B ρ us us'∧∀(j:Nat) (v:Value),us'[j]? =some v→w.cell? (a'.add (i+j))=some v:=by
  intro n
  induction n with
  | zero=>
   intro i us hl _
   cases us with
   | nil=>exact ⟨[], .nil,fun j v hv=>by simp at hv⟩
   | cons x us=>simp at hl
  | succ n ih=>
   intro i us hl hus
   cases us with
   | nil=>simp at hl
   | cons x us=>
    obtain ⟨x',hx,hrel⟩:=s.cell (ha.add (i+0)) (hus 0 x rfl)
    obtain ⟨us',h1,h2⟩:=ih (i+1) us (by simpa using hl) (fun j v hv=>by have:=hus (j+1) v (by simpa using hv); rwa [show i+(j+1)=i+1+j by omega] at this)
    refine ⟨x'::us', .cons hrel h1, ?_⟩
    intro j v hv
    cases j with
    | zero=>simp at hv; subst hv; exact hx
    | succ j=>have:=h2 j v (by simpa using hv); rwa [show i+1+j=i+(j+1) by omega] at this
 obtain ⟨us',h1,h2⟩:=this vs.length 0 vs rfl hv
 exact ⟨us',h1,fun j v hv=>by simpa using h2 j v hv⟩
theorem loadC_sound(s:Sim B W ρ h w){a a':Addr}(ha:ARel B ρ a a'){t:TypeId}{K:Value→Option R}(hk:loadC P h t a K=some r) :
  ∃v v',K v=some r∧VRel B ρ v v'∧(loadVar t a').run P w= .ok v' w:=by
 unfold loadC at hk
 obtain ⟨b,hb,hk⟩:=aggC_some hk
 obtain ⟨i,z,hi,hz,hp,hk⟩:=zeroC_some hk
 cases b with
 | false=>
  rw [cond_false] at hk
  obtain ⟨v,hv,hk⟩:=ldC_some hk
  obtain ⟨v',hv',hrel⟩:=s.cell ha hv
  exact ⟨v,v',hk,hrel,by simp [loadVar,hb,hv']⟩
 | true=>
  rw [cond_true] at hk
  obtain ⟨i',hi',hk⟩:=sizeC_some hk
  rw [hi] at hi'; cases hi'
  obtain ⟨hsz,hk⟩:=needC_some hk
  have hsz':z.cells.size=i.size:=by simpa using hsz
  obtain ⟨vs,hl,hvs,hk⟩:=ldCellsC_some hk
  obtain ⟨vs',hrel,hc⟩:=s.cells ha hvs
  refine ⟨_, .agg vs'.toArray,hk, .agg (by simpa using hrel), ?_⟩
  have hlen:vs'.length=i.size:=by rw [←hrel.length,hl]; simpa using hsz'
  have hr:=run_loadCells_list (P:=P) w a' vs' hc
  rw [hlen] at hr
  simp [loadVar,hb,sizeOf,typeInfo,hi,hr]
end
end Go.Proofs.Ytpfploolkmcalaa.AM
end
section
namespace Go.Proofs.Ytpfploolkmcalaa.AM
open Go Go.RowKit
set_option linter.unusedSectionVars false
set_option linter.unusedSimpArgs false
set_option linter.unusedVariables false
section
variable {B:Nat} {W:World} {ρ:Places} {h h':Hp} {w:World} {P:Program} {R:Type} {r:R}
theorem run_mapM_fields(g:Field→Sem (Nat×Nat))(hg:∀f i,P.info? f.type=some i→∀w,(g f).run P w= .ok (f.offset,i.size) w) :
  ∀(l:List Field) (ps:List (Nat×Nat)),(l.mapM fun f=>(P.info? f.type).map fun i=>(f.offset,i.size))=some ps→∀w,(l.mapM g).run P w= .ok ps w
 | [],ps,hp,w=>by simp at hp; subst hp; rfl
 | f::l,ps,hp,w=>by
  rw [List.mapM_cons] at hp
  cases hi:P.info? f.type with
  | none=>simp [hi] at hp
  | some i=>
   simp only [hi,Option.map_some,Option.bind_eq_bind,Option.bind_some] at hp
   cases hm:l.mapM (fun f=>(P.info? f.type).map fun i=>(f.offset,i.size)) with
   | none=>simp [hm] at hp
   | some qs=>
    simp [hm] at hp
    subst hp
    rw [List.mapM_cons]
    simp only [Sem.run_bind,hg f i hi,Result.andThen_ok,run_mapM_fields g hg l qs hm w,Sem.run_pure]
theorem run_places{fs:Array Field}{ps:List (Nat×Nat)}(hp:placesOf P fs=some ps)(w:World)(g:Field→Sem (Nat×Nat))(hg:∀f i,P.info? f.type=some i→∀w,(g f).run P w= .ok (f.offset,i.size) w) :
  (fs.mapM g).run P w= .ok ps.toArray w:=by
 rw [Array.mapM_eq_mapM_toList]
 unfold placesOf at hp
 simp only [Sem.run_map,run_mapM_fields g hg _ _ hp w,Result.andThen_ok]
theorem setIf_rel{cs cs':Array Value}(hr:VRels B ρ cs.toList cs'.toList)(i:Nat){v v':Value}(hv:VRel B ρ v v') :VRels B ρ (cs.setIfInBounds i v).toList (cs'.setIfInBounds i v').toList:=by
 simp only [Array.toList_setIfInBounds]
 refine VRels.of_get (by simp [hr.length]) ?_
 intro j u u' hu hu'
 rw [List.getElem?_set] at hu hu'
 have hl:=hr.length
 split at hu
 ·rename_i e
  rw [if_pos e] at hu'
  split at hu
  ·rename_i e2
   rw [if_pos (by omega)] at hu'
   cases hu; cases hu'
   exact hv
  ·cases hu
 ·rename_i e
  rw [if_neg e] at hu'
  obtain ⟨u2,h1,h2⟩:=hr.get hu
  rw [h1] at hu'
  cases hu'
  exact h2
theorem foldl_rel(off:Nat) :∀(l l':List Value) (k:Nat) (cs cs':Array Value),VRels B ρ l l'→VRels B ρ cs.toList cs'.toList→
  VRels B ρ ((l.zipIdx k).foldl (fun cs (c,j)=>cs.setIfInBounds (off+j) c) cs).toList ((l'.zipIdx k).foldl (fun cs (c,j)=>cs.setIfInBounds (off+j) c) cs').toList
 | [],_,k,cs,cs', .nil,hr=>by simpa using hr
 | x::l,y::l',k,cs,cs', .cons hx hs,hr=>by
  simp only [List.zipIdx_cons,List.foldl_cons]
  exact foldl_rel off l l' (k+1) _ _ hs (setIf_rel hr _ hx)
inductive PRels (B:Nat) (ρ:Places):List (Nat×Value)→List (Nat×Value)→Prop
 | nil:PRels B ρ [] []
 | cons {i:Nat} {v v':Value} {l l':List (Nat×Value)} (hv:VRel B ρ v v') (ho:oneCells v.cells.toList=true) (h:PRels B ρ l l'):PRels B ρ ((i,v)::l) ((i,v')::l')
theorem fill_rel(place:Nat→Option (Nat×Nat)) :∀{ps ps':List (Nat×Value)} {cs cs' out:Array Value},PRels B ρ ps ps'→VRels B ρ cs.toList cs'.toList→Instr.fill place cs ps=some out→
  ∃out',Instr.fill place cs' ps'=some out'∧VRels B ρ out.toList out'.toList
 | _,_,cs,cs',out, .nil,hr,hf=>by
  rw [Instr.fill] at hf
  cases hf
  exact ⟨cs',rfl,hr⟩
 | _,_,cs,cs',out, .cons (i:=i) (v:=v) (v':=v') hv ho hs,hr,hf=>by
  rw [Instr.fill] at hf ⊢
  have hc:=rel_cells ho hv
  have hl:v.cells.size=v'.cells.size:=by simpa using hc.length
  have hl2:cs.size=cs'.size:=by simpa using hr.length
  cases hp:place i with
  | none=>rw [hp] at hf; cases hf
  | some q=>
   obtain ⟨off,size⟩:=q
   rw [hp] at hf
   simp only at hf ⊢
   rw [←hl,←hl2]
   split at hf
   ·cases hf
   ·rename_i hn
    rw [if_neg hn]
    refine fill_rel place hs ?_ hf
    have e1:v.cells.zipIdx.toList=v.cells.toList.zipIdx:=by simp
    have e2:v'.cells.zipIdx.toList=v'.cells.toList.zipIdx:=by simp
    rw [←Array.foldl_toList,←Array.foldl_toList,e1,e2]
    exact foldl_rel off _ _ 0 _ _ hc hr
theorem foldl_size(off:Nat) :∀(l:List (Value×Nat)) (cs:Array Value),(l.foldl (fun cs (c,j)=>cs.setIfInBounds (off+j) c) cs).size=cs.size
 | [],cs=>rfl
 | x::l,cs=>by
  rw [List.foldl_cons,foldl_size off l]
  exact Array.size_setIfInBounds
theorem fill_size(place:Nat→Option (Nat×Nat)) :∀(ps:List (Nat×Value)) (a b:Array Value),Instr.fill place a ps=some b→b.size=a.size
 | [],a,b,hh=>by rw [Instr.fill] at hh; cases hh; rfl
 | (k,u)::ps,a,b,hh=>by
  rw [Instr.fill] at hh
  split at hh
  ·cases hh
  ·split at hh
   ·cases hh
   ·rw [fill_size place ps _ _ hh,←Array.foldl_toList]
    exact foldl_size _ _ _
theorem prels_map{ps:Array (Nat×Operand)}{ev ev':Operand→Value}(hv:∀x∈ps.toList.map (·.2),VRel B ρ (ev x) (ev' x))(ho:(ps.toList.all fun p=>oneCells (ev p.2).cells.toList)=true) :
  PRels B ρ (ps.toList.map fun p=>(p.1,ev p.2)) (ps.map fun (i,x)=>(i,ev' x)).toList:=by
 rw [Array.toList_map]
 generalize ps.toList=l at hv ho
 induction l with
 | nil=>exact .nil
 | cons p l ih=>
  simp only [List.all_cons,Bool.and_eq_true] at ho
  exact .cons (hv p.2 (by simp)) ho.1 (ih (fun x hx=>hv x (by simp at hx ⊢; exact .inr hx)) ho.2)
theorem plain_cells{z:Value}(hz:plainC z=true) :VRels B ρ z.cells.toList z.cells.toList:=by
 have:=rel_plain (B:=B) (ρ:=ρ) hz
 cases z with
 | agg cs=>cases this with | agg h=>exact h
 | _=>exact .cons this .nil
theorem buildC_sound{t:TypeId}{ps:Array (Nat×Operand)}{ev ev':Operand→Value}(hv:∀x∈ps.toList.map (·.2),VRel B ρ (ev x) (ev' x)){K:Value→Option R}
  (hk:(needC (ps.toList.all fun p=>oneCells (ev p.2).cells.toList) fun _=>buildC P t (ps.toList.map fun p=>(p.1,ev p.2)) K)=some r) (w:World):
  ∃v v',K v=some r∧VRel B ρ v v'∧(Instr.build t (ps.map fun (i,x)=>(i,ev' x))).run P w= .ok v' w:=by
 obtain ⟨ho,hk⟩:=needC_some hk
 have hp:=prels_map hv ho
 unfold buildC at hk
 obtain ⟨i,z,hi,hz,hpl,hk⟩:=zeroC_some hk
 have hzc:=plain_cells (B:=B) (ρ:=ρ) hpl
 split at hk
 ·rename_i fs hu
  split at hk
  ·rename_i pl hpl2
   split at hk
   ·rename_i cs hf
    obtain ⟨cs',hf',hr⟩:=fill_rel _ hp hzc hf
    refine ⟨_, .agg cs',hk, .agg hr, ?_⟩
    have hm:=run_places hpl2 w (fun f=>do pure (f.offset,←sizeOf f.type)) (fun f i hi w=>by simp [sizeOf,typeInfo,hi])
    have hf2:Instr.fill (fun i=>pl.toArray[i]?) z.cells (ps.map fun (i,x)=>(i,ev' x)).toList=some cs':=by
     simpa using hf'
    simp only [Instr.build,Sem.run_bind,zeroValue,typeInfo,run_program,Result.andThen_ok,hi,Sem.run_pure,hz,run_underlying hu]
    rw [hm]
    simp only [Result.andThen_ok]
    rw [hf2]
    rfl
   ·cases hk
  ·cases hk
 ·rename_i n e hu
  obtain ⟨ie,hie,hk⟩:=sizeC_some hk
  split at hk
  ·rename_i cs hf
   obtain ⟨cs',hf',hr⟩:=fill_rel _ hp hzc hf
   refine ⟨_, .agg cs',hk, .agg hr, ?_⟩
   simp only [Instr.build,Sem.run_bind,zeroValue,sizeOf,typeInfo,run_program,Result.andThen_ok,hi,hie,Sem.run_pure,hz,run_underlying hu]
   rw [hf']
   rfl
  ·cases hk
 ·cases hk
theorem zeros_eq(z:Value)(n:Nat) :(zerosOf z n).toArray=(Array.range n).map (z.cells[· % z.cells.size]!):=by
 apply Array.ext'
 simp [zerosOf]
theorem run_buildSlice{t e:TypeId}{i:TypeInfo}{z:Value}(hu:P.underlying t=some (.slice e))(hi:P.info? e=some i)(hz:i.zero=some z)(n:Nat)(hn:n*i.size≤4096){ps:Array (Nat×Value)}{cs':Array Value}
  (hf:Instr.fill (fun k=>some (k*i.size,i.size)) (zerosOf z (n*i.size)).toArray ps.toList=some cs') (w:World):
  (Instr.buildSlice t n ps).run P w= .ok (.slice (some ⟨w.heap.size,0,none⟩) n n) (w.alloc (.cells cs' e)):=by
 have h24:¬(n*i.size>2^24):=by omega
 unfold Instr.buildSlice
 simp only [Sem.run_bind,run_underlying hu,Result.andThen_ok,sizeOf,typeInfo,run_program,hi,Sem.run_pure]
 rw [if_neg h24]
 by_cases h0:n*i.size=0
 ·have hz0:zerosOf z (n*i.size)=[]:=by rw [h0]; rfl
  rw [hz0] at hf
  simp only [h0,if_true,Sem.run_bind,Sem.run_pure,Result.andThen_ok]
  have e0:(Array.range 0).map (fun x=>(#[]:Array Value)[x % (#[]:Array Value).size]!)=([]:List Value).toArray:=by simp
  rw [e0,hf]
  rfl
 ·rw [zeros_eq] at hf
  simp only [h0,if_false,zeroValue,Sem.run_bind,typeInfo,run_program,hi,hz,Sem.run_pure,Result.andThen_ok]
  rw [hf]
  rfl
theorem zeros_rel{z:Value}(hz:plainC z=true)(n:Nat)(hn:z.cells.size=0→n=0) :VRels B ρ (zerosOf z n) (zerosOf z n):=by
 have hc:=plain_cells (B:=B) (ρ:=ρ) hz
 refine VRels.of_get rfl ?_
 intro i v v' hv hv'
 rw [hv] at hv'
 cases hv'
 simp only [zerosOf,List.getElem?_map,Option.map_eq_some_iff,List.getElem?_range] at hv
 obtain ⟨j,hj,rfl⟩:=hv
 by_cases hs:z.cells.size=0
 ·have hn0:=hn hs; rw [hn0] at hj; simp at hj
 ·have hlt:j % z.cells.size<z.cells.size:=Nat.mod_lt _ (by omega)
  have hg:z.cells.toList[j % z.cells.size]? =some (z.cells[j % z.cells.size]!):=by
   simp [hlt]
  obtain ⟨v',h1,h2⟩:=hc.get hg
  rw [hg] at h1
  cases h1
  exact h2
end
end Go.Proofs.Ytpfploolkmcalaa.AM
end
section
namespace Go.Proofs.Ytpfploolkmcalaa.AM
open Go Go.RowKit
set_option linter.unusedSectionVars false
set_option linter.unusedSimpArgs false
set_option linter.unusedVariables false
section
variable {B:Nat} {W:World} {ρ:Places} {h h':Hp} {w:World} {P:Program} {R:Type} {r:R}
theorem i64_max :IntKind.i64.max=9223372036854775807:=by decide
theorem intC_sound{op:BinOp}{k k':IntKind}{a b:Int}{K:Value→Option R}(t:TypeId)(hk:intC op k k' a b K=some r)(w:World) :
  ∃v,K v=some r∧VRel B ρ v v∧(binOp op t (.int k a) (.int k' b)).run P w= .ok v w:=by
 cases op <;>simp only [intC] at hk
 case shl=>
  obtain ⟨hb,hk⟩:=needC_some hk
  have hb':¬b<0:=by have:=of_decide_eq_true hb; omega
  exact ⟨_,hk, .int _ _,by simp [binOp,Op.shift,hb']⟩
 case shr=>
  obtain ⟨hb,hk⟩:=needC_some hk
  have hb':¬b<0:=by have:=of_decide_eq_true hb; omega
  exact ⟨_,hk, .int _ _,by simp [binOp,Op.shift,hb']⟩
 case quo=>
  obtain ⟨he,hk1⟩:=needC_some hk
  obtain ⟨hb,hk2⟩:=needC_some hk1
  have he':=of_decide_eq_true he
  have hb':¬b=0:=by simpa using hb
  clear hk hk1 he
  subst he'
  exact ⟨_,hk2, .int _ _,by simp [binOp,Op.intDiv,hb']⟩
 case rem=>
  obtain ⟨he,hk1⟩:=needC_some hk
  obtain ⟨hb,hk2⟩:=needC_some hk1
  have he':=of_decide_eq_true he
  have hb':¬b=0:=by simpa using hb
  clear hk hk1 he
  subst he'
  exact ⟨_,hk2, .int _ _,by simp [binOp,Op.intDiv,hb']⟩
 case add=>obtain ⟨he,hk1⟩:=needC_some hk; clear hk; have he':=of_decide_eq_true he; clear he; subst he'; exact ⟨_,hk1, .int _ _,by simp [binOp,Op.intArith]⟩
 case sub=>obtain ⟨he,hk1⟩:=needC_some hk; clear hk; have he':=of_decide_eq_true he; clear he; subst he'; exact ⟨_,hk1, .int _ _,by simp [binOp,Op.intArith]⟩
 case mul=>obtain ⟨he,hk1⟩:=needC_some hk; clear hk; have he':=of_decide_eq_true he; clear he; subst he'; exact ⟨_,hk1, .int _ _,by simp [binOp,Op.intArith]⟩
 case and=>obtain ⟨he,hk1⟩:=needC_some hk; clear hk; have he':=of_decide_eq_true he; clear he; subst he'; exact ⟨_,hk1, .int _ _,by simp [binOp,Op.intBits,bitsI]⟩
 case or=>obtain ⟨he,hk1⟩:=needC_some hk; clear hk; have he':=of_decide_eq_true he; clear he; subst he'; exact ⟨_,hk1, .int _ _,by simp [binOp,Op.intBits,bitsI]⟩
 case xor=>obtain ⟨he,hk1⟩:=needC_some hk; clear hk; have he':=of_decide_eq_true he; clear he; subst he'; exact ⟨_,hk1, .int _ _,by simp [binOp,Op.intBits,bitsI]⟩
 case andNot=>obtain ⟨he,hk1⟩:=needC_some hk; clear hk; have he':=of_decide_eq_true he; clear he; subst he'; exact ⟨_,hk1, .int _ _,by simp [binOp,Op.intBits,bitsI]⟩
 case eql=>obtain ⟨he,hk1⟩:=needC_some hk; clear hk; have he':=of_decide_eq_true he; clear he; subst he'; exact ⟨_,hk1, .bool _,by simp [binOp,Op.intCmp]; rfl⟩
 case neq=>obtain ⟨he,hk1⟩:=needC_some hk; clear hk; have he':=of_decide_eq_true he; clear he; subst he'; exact ⟨_,hk1, .bool _,by simp [binOp,Op.intCmp]; rfl⟩
 case lss=>obtain ⟨he,hk1⟩:=needC_some hk; clear hk; have he':=of_decide_eq_true he; clear he; subst he'; exact ⟨_,hk1, .bool _,by simp [binOp,Op.intCmp]⟩
 case leq=>obtain ⟨he,hk1⟩:=needC_some hk; clear hk; have he':=of_decide_eq_true he; clear he; subst he'; exact ⟨_,hk1, .bool _,by simp [binOp,Op.intCmp]⟩
 case gtr=>obtain ⟨he,hk1⟩:=needC_some hk; clear hk; have he':=of_decide_eq_true he; clear he; subst he'; exact ⟨_,hk1, .bool _,by simp [binOp,Op.intCmp]⟩
 case geq=>obtain ⟨he,hk1⟩:=needC_some hk; clear hk; have he':=of_decide_eq_true he; clear he; subst he'; exact ⟨_,hk1, .bool _,by simp [binOp,Op.intCmp]⟩
theorem str_eq(a b:ByteArray) :(a.toList==b.toList)=decide (a=b):=by
 rw [Bool.eq_iff_iff]
 simp only [beq_iff_eq,decide_eq_true_eq]
 constructor
 ·intro h
  rw [ByteArray.toList_eq,ByteArray.toList_eq] at h
  cases a; cases b
  congr 1
  exact Array.ext' h
 ·intro h; rw [h]
theorem strC_sound{op:BinOp}{a b:ByteArray}{K:Value→Option R}(t:TypeId)(hk:strC op a b K=some r)(w:World) :
  ∃v,K v=some r∧VRel B ρ v v∧(binOp op t (.string a) (.string b)).run P w= .ok v w:=by
 cases op <;>simp only [strC] at hk <;>(try cases hk)
 case add=>
  obtain ⟨hb,hk⟩:=needC_some hk
  have hb':=of_decide_eq_true hb
  have:¬((9223372036854775807:Int)<(a.size:Int)+(b.size:Int)):=by omega
  exact ⟨_,hk, .string _,by simp [binOp,Op.stringOp,i64_max,this]⟩
 all_goals exact ⟨_,hk, .bool _,by simp [binOp,Op.stringOp,str_eq]⟩
theorem eqlC_some{op:BinOp}{b:Bool}{K:Value→Option R}(hk:eqlC op b K=some r) :(op= .eql∧K (.bool b)=some r)∨(op= .neq∧K (.bool (!b))=some r):=by
 cases op <;>simp only [eqlC] at hk <;>first | (cases hk; done) | exact .inl ⟨rfl,hk⟩ | exact .inr ⟨rfl,hk⟩
def EqOK(P:Program)(eqt:TypeId→Option (List Value)) :Prop:=∀t zs,eqt t=some zs→P.eqGuardType P.depth t=false∧
 ∀(xs ys:Array Value) (w:World) (b:Bool),shapeB zs xs.toList=true→shapeB zs ys.toList=true→eqCells xs.toList ys.toList=some b→(Op.equal t (.agg xs) (.agg ys)).run P w= .ok b w
theorem eqlC_sound{op:BinOp}{b:Bool}{K:Value→Option R}{t:TypeId}{x y:Value}(hk:eqlC op b K=some r)(w:World)
  (hint:∀k n,x ≠ .int k n) (hs:∀s,x ≠ .string s) (hf:∀k n,x ≠ .float k n) (hc:∀k n m,x ≠ .complex k n m)
  (he:(Op.equal t x y).run P w= .ok b w):∃v,K v=some r∧VRel B ρ v v∧(binOp op t x y).run P w= .ok v w:=by
 rcases eqlC_some hk with ⟨rfl,hk⟩ | ⟨rfl,hk⟩
 ·refine ⟨_,hk, .bool _, ?_⟩
  have:binOp .eql t x y=(do pure (.bool (←Op.equal t x y)):Sem Value):=by
   cases x <;>cases y <;>first | rfl | exact absurd rfl (hint _ _) | exact absurd rfl (hs _) | exact absurd rfl (hf _ _) | exact absurd rfl (hc _ _ _)
  rw [this]
  simp [he]
 ·refine ⟨_,hk, .bool _, ?_⟩
  have:binOp .neq t x y=(do pure (.bool (!(←Op.equal t x y))):Sem Value):=by
   cases x <;>cases y <;>first | rfl | exact absurd rfl (hint _ _) | exact absurd rfl (hs _) | exact absurd rfl (hf _ _) | exact absurd rfl (hc _ _ _)
  rw [this]
  simp [he]
theorem rel_slice{a:Option Addr}{n c:Nat}{v:Value}(hr:VRel B ρ (.slice a n c) v) :∃a' c',v= .slice a' n c'∧a'.isNone=a.isNone:=by
 cases hr with
 | slNil=>exact ⟨_,_,rfl,rfl⟩
 | slOld h=>exact ⟨_,_,rfl,rfl⟩
 | slNew _ _ _=>exact ⟨_,_,rfl,rfl⟩
 | slEmpty _=>exact ⟨_,_,rfl,rfl⟩
 | slDang _=>exact ⟨_,_,rfl,rfl⟩
theorem rel_pointer{a:Option Addr}{v:Value}(hr:VRel B ρ (.pointer a) v) :∃a',v= .pointer a'∧a'.isNone=a.isNone:=by
 cases hr with
 | ptrNil=>exact ⟨_,rfl,rfl⟩
 | ptrOld h=>exact ⟨_,rfl,rfl⟩
 | ptrNew _=>exact ⟨_,rfl,rfl⟩
theorem shape_same :∀{zs xs ys:List Value},shapeB zs xs=true→VRels B ρ xs ys→ys=xs
 | [],[],_,_, .nil=>rfl
 | [],_::_,_,h,_=>by cases h
 | z::zs,[],_,h,_=>by cases z <;>cases h
 | z::zs,x::xs,_,h, .cons hx hs=>by
  cases z <;>cases x <;>simp only [shapeB,Bool.and_eq_true,Bool.false_eq_true] at h
  ·cases hx
   rw [shape_same h hs]
  ·cases hx
   rw [shape_same h.2 hs]
  ·cases hx
   rw [shape_same h hs]
theorem run_eqGuard{op:BinOp}{t:TypeId}{x y:Operand}{a b:Value}(h1:a ≠ .nilIface)(h2:∀cs,a= .agg cs→P.eqGuardType P.depth t=false)(w:World) :(eqGuard op t x y a b).run P w= .ok () w:=by
  unfold eqGuard
  cases op <;>first
    | rfl
    | (cases a <;>first
        | rfl
        | exact absurd rfl h1
        | (rename_i cs
           cases b <;>first
             | rfl
             | (simp [h2 cs rfl])))
theorem equalIn_bool(d:Nat){t:TypeId}(hu:P.underlying t=some .bool)(a b:Bool)(w:World) :(Op.equalIn (d+1) t (.bool a) (.bool b)).run P w= .ok (a==b) w:=by
 simp only [Op.equalIn,Sem.run_bind,run_underlying hu,Result.andThen_ok,Sem.run_pure]
theorem equalIn_slice(d:Nat){t e:TypeId}(hu:P.underlying t=some (.slice e))(a b:Option Addr)(n c m k:Nat)(w:World)(h:a=none∨b=none) :(Op.equalIn (d+1) t (.slice a n c) (.slice b m k)).run P w= .ok (a.isNone &&b.isNone) w:=by
 cases a <;>cases b <;>first
  | (simp only [Op.equalIn,Sem.run_bind,run_underlying hu,Result.andThen_ok,Sem.run_pure]; rfl)
  | (simp at h)
theorem equalIn_pointer(d:Nat){t e:TypeId}(hu:P.underlying t=some (.pointer e))(a b:Option Addr)(w:World)(h:a=none∨b=none) :(Op.equalIn (d+1) t (.pointer a) (.pointer b)).run P w= .ok (a.isNone &&b.isNone) w:=by
 cases a <;>cases b <;>first
  | (simp only [Op.equalIn,Sem.run_bind,run_underlying hu,Result.andThen_ok,Sem.run_pure]; rfl)
  | (simp at h)
theorem equal_bool{t:TypeId}(hu:P.underlying t=some .bool)(a b:Bool)(w:World) :(Op.equal t (.bool a) (.bool b)).run P w= .ok (a==b) w:=equalIn_bool 9999 hu a b w
theorem equal_slice{t e:TypeId}(hu:P.underlying t=some (.slice e))(a b:Option Addr)(n c m k:Nat)(w:World)(h:a=none∨b=none) :(Op.equal t (.slice a n c) (.slice b m k)).run P w= .ok (a.isNone &&b.isNone) w:=equalIn_slice 9999 hu a b n c m k w h
theorem equal_pointer{t e:TypeId}(hu:P.underlying t=some (.pointer e))(a b:Option Addr)(w:World)(h:a=none∨b=none) :(Op.equal t (.pointer a) (.pointer b)).run P w= .ok (a.isNone &&b.isNone) w:=equalIn_pointer 9999 hu a b w h
theorem binC_sound{op:BinOp}{t:TypeId}{eqt:TypeId→Option (List Value)}(hq:EqOK P eqt){x y x' y':Value}{X Y:Operand}(hx:VRel B ρ x x')(hy:VRel B ρ y y'){K:Value→Option R}
  (hk:binC op (P.underlying t) (eqt t) x y K=some r) (w:World):
  ∃v,K v=some r∧VRel B ρ v v∧(do eqGuard op t X Y x' y'; binOp op t x' y':Sem Value).run P w= .ok v w:=by
 have fin:∀{x' y':Value},x' ≠ .nilIface→(∀cs,x'= .agg cs→P.eqGuardType P.depth t=false)→(∃v,K v=some r∧VRel B ρ v v∧(binOp op t x' y').run P w= .ok v w)→
   ∃v,K v=some r∧VRel B ρ v v∧(do eqGuard op t X Y x' y'; binOp op t x' y':Sem Value).run P w= .ok v w:=by
  intro x' y' h1 h2 ⟨v,a,b,c⟩
  exact ⟨v,a,b,by rw [Sem.run_bind,run_eqGuard h1 h2]; exact c⟩
 unfold binC at hk
 split at hk
 ·split at hk
  ·cases hx; cases hy
   exact fin (by simp) (by simp) (intC_sound t hk w)
  ·cases hk
 ·split at hk
  ·cases hx; cases hy
   exact fin (by simp) (by simp) (strC_sound t hk w)
  ·cases hk
 ·split at hk
  ·cases hx; cases hy
   split at hk
   ·rename_i hu
    refine fin (by simp) (by simp) (eqlC_sound hk w (by simp) (by simp) (by simp) (by simp) ?_)
    exact equal_bool hu _ _ w
   ·cases hk
  ·cases hk
 ·split at hk
  ·split at hk
   ·rename_i a _ _ _ b _ _ _ e hu
    obtain ⟨a',c',rfl,ha⟩:=rel_slice hx
    obtain ⟨b',d',rfl,hb⟩:=rel_slice hy
    unfold nilC at hk
    cases b with
    | none=>
     have hb':b'=none:=by cases b' <;>simp at hb ⊢
     subst hb'
     refine fin (by simp) (by simp) (eqlC_sound hk w (by simp) (by simp) (by simp) (by simp) ?_)
     refine (equal_slice (P:=P) hu a' none _ _ _ _ w (.inr rfl)).trans ?_
     rw [←ha]
     simp
    | some bb=>
     obtain ⟨b2,rfl⟩:∃z,b'=some z:=by cases b' <;>simp at hb ⊢
     cases a with
     | some aa=>cases hk
     | none=>
      have ha':a'=none:=by cases a' <;>simp at ha ⊢
      subst ha'
      refine fin (by simp) (by simp) (eqlC_sound hk w (by simp) (by simp) (by simp) (by simp) ?_)
      exact equal_slice (P:=P) hu none (some b2) _ _ _ _ w (.inl rfl)
   ·cases hk
  ·cases hk
 ·split at hk
  ·split at hk
   ·rename_i a _ b _ e hu
    obtain ⟨a',rfl,ha⟩:=rel_pointer hx
    obtain ⟨b',rfl,hb⟩:=rel_pointer hy
    unfold nilC at hk
    cases b with
    | none=>
     have hb':b'=none:=by cases b' <;>simp at hb ⊢
     subst hb'
     refine fin (by simp) (by simp) (eqlC_sound hk w (by simp) (by simp) (by simp) (by simp) ?_)
     refine (equal_pointer (P:=P) hu a' none w (.inr rfl)).trans ?_
     rw [←ha]
     simp
    | some bb=>
     obtain ⟨b2,rfl⟩:∃z,b'=some z:=by cases b' <;>simp at hb ⊢
     cases a with
     | some aa=>cases hk
     | none=>
      have ha':a'=none:=by cases a' <;>simp at ha ⊢
      subst ha'
      refine fin (by simp) (by simp) (eqlC_sound hk w (by simp) (by simp) (by simp) (by simp) ?_)
      exact equal_pointer (P:=P) hu none (some b2) w (.inl rfl)
   ·cases hk
  ·cases hk
 ·split at hk
  ·split at hk
   ·rename_i zs hz
    obtain ⟨hsh,hk⟩:=needC_some hk
    simp only [Bool.and_eq_true] at hsh
    obtain ⟨hg,he⟩:=hq t zs hz
    split at hk
    ·rename_i b hb
     cases hx with
     | agg hx=>
      cases hy with
      | agg hy=>
       have e1:=shape_same hsh.1 hx
       have e2:=shape_same hsh.2 hy
       refine fin (by simp) (fun _ _=>hg) (eqlC_sound hk w (by simp) (by simp) (by simp) (by simp) ?_)
       exact he _ _ w b (by rw [e1]; exact hsh.1) (by rw [e2]; exact hsh.2) (by rw [e1,e2]; exact hb)
    ·cases hk
   ·cases hk
  ·cases hk
 ·cases hk
theorem unC_sound{op:UnOp}{x x':Value}(hx:VRel B ρ x x'){K:Value→Option R}(hk:unC op x K=some r)(w:World) :
  ∃v,K v=some r∧VRel B ρ v v∧(Op.unary op x').run P w= .ok v w:=by
 unfold unC at hk
 split at hk
 ·split at hk
  ·cases hx
   exact ⟨_,hk, .int _ _,by simp [Op.unary,Op.intArith]⟩
  ·cases hk
 ·split at hk
  ·cases hx
   exact ⟨_,hk, .bool _,by simp [Op.unary]⟩
  ·cases hk
 ·split at hk
  ·cases hx
   rename_i k n
   refine ⟨_,hk, .int _ _, ?_⟩
   cases hs:k.signed <;>simp [Op.unary,Op.intBits,bitsI,hs]
  ·cases hk
 ·cases hk
end
end Go.Proofs.Ytpfploolkmcalaa.AM
end
section
namespace Go.Proofs.Ytpfploolkmcalaa.AM
open Go Go.RowKit
set_option linter.unusedSectionVars false
set_option linter.unusedSimpArgs false
set_option linter.unusedVariables false
section
variable {B:Nat} {W:World} {ρ:Places} {h h':Hp} {w:World} {P:Program} {R:Type} {r:R}
theorem rel_slice_addr{ad:Addr}{n c:Nat}{v:Value}(hr:VRel B ρ (.slice (some ad) n c) v)(hn:0<n) :∃ad' c',v= .slice (some ad') n c'∧ARel B ρ ad ad':=by
 cases hr with
 | slOld h=>exact ⟨_,_,rfl, .old h⟩
 | slNew h _ _=>exact ⟨_,_,rfl, .new h⟩
 | slEmpty h=>omega
 | slDang h=>omega
theorem idxC_some{a:Option Addr}{n s:Nat}{i:Int}{K:Value→Option R}(hk:idxC a n s i K=some r) :
  ∃ad,a=some ad∧0≤i∧i<(n:Int)∧K (.pointer (some (ad.add (i.toNat*s))))=some r:=by
 unfold idxC at hk
 obtain ⟨hb,hk⟩:=needC_some hk
 simp only [Bool.and_eq_true,decide_eq_true_eq] at hb
 split at hk
 ·exact ⟨_,rfl,hb.1,hb.2,hk⟩
 ·cases hk
theorem run_indexAt_slice{t e:TypeId}{i:TypeInfo}(hu:P.underlying t=some (.slice e))(hi:P.info? e=some i)(ad:Addr)(n c:Nat)(k:IntKind)(j:Int)(h0:0≤j)(h1:j<(n:Int))(w:World) :
  (Instr.indexAt t (.slice (some ad) n c) (.int k j)).run P w= .ok (.pointer (some (ad.add (j.toNat*i.size)))) w:=by
 simp [Instr.indexAt,asIntOf,run_underlying hu,sizeOf,typeInfo,hi,h0,h1]
theorem run_indexAt_array{t e:TypeId}{i:TypeInfo}{n:Nat}(hu:P.underlying t=some (.array n e))(hi:P.info? e=some i)(ad:Addr)(k:IntKind)(j:Int)(h0:0≤j)(h1:j<(n:Int))(w:World) :
  (Instr.indexAt t (.pointer (some ad)) (.int k j)).run P w= .ok (.pointer (some (ad.add (j.toNat*i.size)))) w:=by
 simp [Instr.indexAt,asIntOf,run_underlying hu,sizeOf,typeInfo,hi,h0,h1,Instr.sureAddr]
def Bnd(o:Option Value)(i:Option Int) :Prop:=(o=none∧i=none)∨∃k z,o=some (.int k z)∧i=some z
theorem run_cut{t e:TypeId}{i:TypeInfo}(hu:P.underlying t=some (.slice e))(hi:P.info? e=some i)(a:Option Addr)(n c:Nat){lo' hi':Option Value}{lo hh:Option Int}(hl:Bnd lo' lo)(hh':Bnd hi' hh)
  (h1:0≤lo.getD 0) (h2:lo.getD 0≤hh.getD n) (h3:hh.getD n≤c) (hnc:n≤c) (w:World):
  (Instr.sliceAt t (.slice a n c) lo' hi' none).run P w= .ok (.slice (if c=(lo.getD 0).toNat then a else a.map (·.add ((lo.getD 0).toNat*i.size))) ((hh.getD n).toNat - (lo.getD 0).toNat) (c - (lo.getD 0).toNat)) w:=by
 rcases hl with ⟨rfl,rfl⟩ | ⟨k,z,rfl,rfl⟩ <;>rcases hh' with ⟨rfl,rfl⟩ | ⟨k',z',rfl,rfl⟩
 ·simp [Instr.sliceAt,run_underlying hu,Instr.slice,Instr.sliceBounds,sizeOf,typeInfo,hi]
 ·have e1:0≤z':=by simpa using h2
  have e2:z'≤(c:Int):=by simpa using h3
  simp [Instr.sliceAt,run_underlying hu,Instr.slice,Instr.sliceBounds,Instr.sliceBound,asIntOf,sizeOf,typeInfo,hi,e1,e2]
 ·have e1:0≤z:=by simpa using h1
  have e2:z≤(n:Int):=by simpa using h2
  simp [Instr.sliceAt,run_underlying hu,Instr.slice,Instr.sliceBounds,Instr.sliceBound,asIntOf,sizeOf,typeInfo,hi,e1,e2]
 ·have e1:0≤z:=by simpa using h1
  have e2:z≤z':=by simpa using h2
  have e3:z'≤(c:Int):=by simpa using h3
  have e4:0≤z':=by omega
  have e5:z≤(z'.toNat:Int):=by omega
  have e6:¬max z' 0<z:=by omega
  simp [Instr.sliceAt,run_underlying hu,Instr.slice,Instr.sliceBounds,Instr.sliceBound,asIntOf,sizeOf,typeInfo,hi,e1,e3,e4,e5,e6]
theorem cutC_sound(s:Sim B W ρ h w){a:Option Addr}{n c:Nat}{x':Value}{t e:TypeId}{i:TypeInfo}(hu:P.underlying t=some (.slice e))(hi:P.info? e=some i)(hx:VRel B ρ (.slice a n c) x')
  {lo' hi':Option Value} {lo hh:Option Int} (hl:Bnd lo' lo) (hh':Bnd hi' hh) {K:Value→Option R} (hk:cutC h a n c i.size lo hh K=some r):
  ∃v v',K v=some r∧VRel B ρ v v'∧(Instr.sliceAt t x' lo' hi' none).run P w= .ok v' w:=by
 unfold cutC cutT at hk
 cases hx with
 | slNil=>
  obtain ⟨hb,hk⟩:=needC_some hk
  simp only [Bool.and_eq_true,decide_eq_true_eq] at hb
  refine ⟨_, .slice none 0 0,hk, .slNil, ?_⟩
  have e1:=hb.1.1.1
  have e2:=hb.1.1.2
  have:=run_cut hu hi none 0 0 hl hh' (by omega) (by rw [e1]; simp [e2]) (by simp [e2]) (Nat.le_refl _) w
  rw [this]
  simp [e1,e2]
 | slOld hlt=>
  rename_i ad
  have hd:decide (ad.block<h.base)=true:=by rw [s.base]; exact decide_eq_true hlt
  simp only [hd,cond_true] at hk
  obtain ⟨hb,hk⟩:=needC_some hk
  simp only [Bool.and_eq_true,decide_eq_true_eq] at hb
  have hr:=run_cut hu hi (some ad) n c hl hh' hb.1.1.1 hb.1.1.2 hb.1.2 hb.2 w
  refine ⟨_,_,hk, ?_,hr⟩
  by_cases hc:c=(lo.getD 0).toNat
  ·simp only [hc,decide_true,cond_true,if_true]
   exact .slOld hlt
  ·simp only [hc,decide_false,cond_false,if_false,Option.map_some]
   exact .slOld (by unfold Addr.add; split <;>exact hlt)
 | @slDang ad b hlt=>
  have hd:decide (ad.block<h.base)=true:=by rw [s.base]; exact decide_eq_true hlt
  simp only [hd,cond_true] at hk
  obtain ⟨hb,hk⟩:=needC_some hk
  simp only [Bool.and_eq_true,decide_eq_true_eq] at hb
  obtain ⟨⟨⟨g1,g2⟩,g3⟩,g4⟩:=hb
  have e1:lo.getD 0=0:=by simp at g2 g3; omega
  have e2:hh.getD 0=0:=by simp at g2 g3; omega
  have hrun:=run_cut hu hi (some b) 0 0 hl hh' g1 g2 g3 g4 w
  refine ⟨_,_,hk, ?_,hrun⟩
  simp only [e1,Int.ofNat_eq_natCast,Int.natCast_zero,e2,Int.toNat_zero,if_true,Nat.sub_self,Nat.zero_mul,decide_true,cond_true]
  exact .slDang hlt
 | @slNew rr o _ c' l hr hn ht=>
  have hge:=(s.dom _ _ hr).1
  have hd:decide ((⟨rr,o,none⟩:Addr).block<h.base)=false:=by rw [s.base]; exact decide_eq_false (by simp; omega)
  simp only [hd,cond_false] at hk
  split at hk
  ·rename_i b hb0
   obtain ⟨hb,hk⟩:=needC_some hk
   simp only [Bool.and_eq_true,decide_eq_true_eq] at hb
   obtain ⟨⟨⟨⟨g1,g2⟩,g3⟩,g4⟩,g5⟩:=hb
   obtain ⟨l',hl',_,_,_,_,_,q4,_⟩:=s.new _ b hb0
   rw [hr] at hl'; cases hl'
   have hsz:l.sz=i.size:=by omega
   have hrun:=run_cut hu hi (some ⟨l.block,l.base+o,none⟩) n c' hl hh' g1 g2 (by omega) hn w
   refine ⟨_,_,hk, ?_,hrun⟩
   by_cases hc:c'=(lo.getD 0).toNat
   ·have e1:(hh.getD (n:Int)).toNat - (lo.getD 0).toNat=0:=by omega
    simp only [hc,if_true,Nat.sub_self,e1]
    rw [add_spot _ rfl]
    exact .slEmpty hr
   ·simp only [hc,if_false,Option.map_some]
    rw [add_spot _ rfl,add_spot _ rfl]
    simp only [Nat.add_assoc]
    refine .slNew hr (by omega) ?_
    rw [hsz]
    have hm:(lo.getD 0).toNat*i.size+(c' - (lo.getD 0).toNat)*i.size=c'*i.size:=by
     rw [←Nat.add_mul]
     congr 1
     omega
    rw [hsz] at ht
    omega
  ·cases hk
 | @slEmpty rr o b l hr=>
  have hge:=(s.dom _ _ hr).1
  have hd:decide ((⟨rr,o,none⟩:Addr).block<h.base)=false:=by rw [s.base]; exact decide_eq_false (by simp; omega)
  simp only [hd,cond_false] at hk
  split at hk
  ·obtain ⟨hb,hk⟩:=needC_some hk
   simp only [Bool.and_eq_true,decide_eq_true_eq] at hb
   obtain ⟨⟨⟨⟨g1,g2⟩,g3⟩,g4⟩,g5⟩:=hb
   have e1:lo.getD 0=0:=by simp at g2 g3; omega
   have e2:hh.getD 0=0:=by simp at g2 g3; omega
   have hrun:=run_cut hu hi (some b) 0 0 hl hh' g1 g2 g3 (Nat.le_refl _) w
   refine ⟨_,_,hk, ?_,hrun⟩
   simp only [e1,Int.ofNat_eq_natCast,Int.natCast_zero,e2,Int.toNat_zero,if_true,Nat.sub_self,Nat.zero_mul]
   rw [add_spot _ rfl]
   exact .slEmpty hr
  ·cases hk
theorem srcC_slice(s:Sim B W ρ h w){sz m:Nat}{b:Option Addr}{n d:Nat}{x':Value}(hx:VRel B ρ (.slice b n d) x')(hm:m≤n){K:List Value→Option R}(hk:srcC h sz m (.slice b n d) K=some r) :
  ∃vs vs' b' d',K vs=some r∧VRels B ρ vs vs'∧x'= .slice b' n d'∧(b=none→b'=none∧vs=[])∧(∀ad,b=some ad→vs.length=m*sz∧∃ad',b'=some ad'∧∀(j:Nat) (v:Value),vs'[j]? =some v→w.cell? (ad'.add j)=some v):=by
 cases b with
 | none=>
  unfold srcC at hk
  obtain ⟨b',d',rfl,hb⟩:=rel_slice hx
  have hb':b'=none:=by cases b' <;>simp at hb ⊢
  exact ⟨[],[],b',d',hk, .nil,rfl,fun _=>⟨hb',rfl⟩,fun ad hh=>by cases hh⟩
 | some ad=>
  unfold srcC at hk
  dsimp only at hk
  split at hk
  ·rename_i cs hcs
   obtain ⟨hl,hg⟩:=rawCells_some hcs
   by_cases h0:m*sz=0
   ·have:cs=[]:=by cases cs with
     | nil=>rfl
     | cons x cs=>simp at hl; omega
    subst this
    obtain ⟨b',d',rfl,hb⟩:=rel_slice hx
    obtain ⟨ad',rfl⟩:∃z,b'=some z:=by cases b' <;>simp at hb ⊢
    exact ⟨[],[],_,d',hk, .nil,rfl,(fun h=>by cases h),fun ad2 hh=>⟨by simp; omega,ad',rfl,fun j v hv=>by simp at hv⟩⟩
   ·have hn:0<n:=by
     have:0<m:=Nat.pos_of_ne_zero (fun e=>h0 (by rw [e,Nat.zero_mul]))
     omega
    obtain ⟨ad',c',rfl,ha⟩:=rel_slice_addr hx hn
    obtain ⟨vs',hr,hc⟩:=s.cells ha hg
    exact ⟨cs,vs',_,c',hk,hr,rfl,(fun h=>by cases h),fun ad2 hh=>⟨hl,ad',rfl,hc⟩⟩
  ·cases hk
theorem growBy_le(n:Nat) :∀(k c:Nat),Builtin.growBy n k c≤max c (n+(n+768) / 4)
 | 0,c=>Nat.le_max_left _ _
 | k+1,c=>by
  rw [Builtin.growBy]
  split
  ·exact Nat.le_max_left _ _
  ·have:=growBy_le n k (c+(c+768) / 4)
   omega
theorem nextcap_le(need old:Nat)(h:old<need) :Builtin.nextslicecap need old≤2*need+512:=by
 unfold Builtin.nextslicecap
 split
 ·omega
 ·split
  ·omega
  ·have:=growBy_le need 4 old
   omega
theorem grown_fits{need old bytes:Nat}(h:old<need)(h1:need*(bytes+1)≤70368744177664)(h2:bytes≤1048576) :Builtin.nextslicecap need old*bytes≤281474976710656:=by
 have a:=nextcap_le need old h
 have b:Builtin.nextslicecap need old*bytes≤(2*need+512)*bytes:=Nat.mul_le_mul_right _ a
 have c:(2*need+512)*bytes=2*(need*bytes)+512*bytes:=by rw [Nat.add_mul,Nat.mul_assoc]
 have d:need*(bytes+1)=need*bytes+need:=Nat.mul_succ _ _
 omega
theorem need_small{need bytes:Nat}(h1:need*(bytes+1)≤70368744177664) :need≤70368744177664:=by
 have d:need*(bytes+1)=need*bytes+need:=Nat.mul_succ _ _
 omega
theorem grownCap_ge(w:World)(need old:Nat)(e:TypeId) :need≤grownCap w need old e:=by
 unfold grownCap Question.cut
 exact Nat.le_add_right _ _
theorem Sim.beyond(s:Sim B W ρ h w){q:Nat}{b:Blk}{l:Loc}(hb:h.new q=some b)(hl:ρ q=some l)(hrw:b.rw=true)(c:Array Value)(t:TypeId)(hg:w.heap[l.block]? =some (.cells c t (0,0)))
  (vs':List Value) (hfit:l.base+b.cells.length+vs'.length≤c.size):Sim B W ρ h (w.setCells l.block (l.base+b.cells.length) vs'):=by
 have hrow:=setCells_row l.block t (0,0) vs' (l.base+b.cells.length) c w hg hfit
 rw [hrow]
 have hnew:=setRow_heap w l.block c (c.toList.take (l.base+b.cells.length)++vs'++c.toList.drop (l.base+b.cells.length+vs'.length)).toArray t (0,0) hg
 have hB:=(s.dom q l hl).2.2.1
 have hsize:(w.setRow l.block (c.toList.take (l.base+b.cells.length)++vs'++c.toList.drop (l.base+b.cells.length+vs'.length)).toArray).heap.size=w.heap.size:=by simp [World.setRow]
 refine ⟨s.below.trans (Below.setRow' hB _),s.low,s.base,s.first, ?_, ?_, ?_, ?_,s.apart,s.mapsApart,s.free⟩
 ·intro a v hav
  obtain ⟨h1,u,h2,h3⟩:=s.old a v hav
  refine ⟨h1,u, ?_,h3⟩
  rw [(Below.setRow' (w:=w) hB _).cell h1]
  exact h2
 ·intro q' k hq
  obtain ⟨x,y,z,u⟩:=s.dom q' k hq
  exact ⟨x,y,z,by rw [hsize]; exact u⟩
 ·intro q2 b2 hq2
  obtain ⟨k,hk,c2,t2,k1,k2,k3,k4,k5⟩:=s.new q2 b2 hq2
  by_cases e:k.block=l.block
  ·rw [e,hg] at k1
   cases k1
   have hext:k.base+b2.cells.length≤l.base+b.cells.length:=by
    by_cases e2:q2=q
    ·subst e2
     rw [hb] at hq2; cases hq2
     rw [hl] at hk; cases hk
     exact Nat.le_refl _
    ·rcases s.apart q2 b2 q b k l hq2 hb e2 hk hl e with ⟨_,_,z⟩ | ⟨_,y,_⟩
     ·exact z
     ·rw [hrw] at y; cases y
   refine ⟨k,hk,_,t,by rw [e]; exact hnew, ?_,k3,k4, ?_⟩
   ·simp
    omega
   ·intro i v hv
    obtain ⟨v',h1,h2⟩:=k5 i v hv
    refine ⟨v', ?_,h2⟩
    have hi:i<b2.cells.length:=by
     rcases Nat.lt_or_ge i b2.cells.length with hlt | hge
     ·exact hlt
     ·rw [List.getElem?_eq_none hge] at hv; cases hv
    have hc:=splice_get c.toList (l.base+b.cells.length) vs' (by simpa using hfit) (k.base+i)
    unfold splice at hc
    rw [List.getElem?_toArray,hc,if_neg (by omega)]
    simpa using h1
  ·exact ⟨k,hk,c2,t2,by rw [setRow_other _ _ _ _ e]; exact k1,k2,k3,k4,k5⟩
 ·intro q2 es hq2
  obtain ⟨k,hk,c2,t2,k1,k2⟩:=s.maps q2 es hq2
  refine ⟨k,hk,c2,t2, ?_,k2⟩
  rw [setRow_other]
  ·exact k1
  ·intro e
   rw [e,hg] at k1
   cases k1
theorem growC0_sound(s:Sim B W ρ h w){a:Option Addr}{n c m:Nat}{sl' x':Value}{t tx ty e:TypeId}{i:TypeInfo}{z:Value}(ht:P.underlying t=some (.slice e))(hi:P.info? e=some i)(hz:i.zero=some z)(hzs:z.cells.size=i.size)
  (hx:VRel B ρ (.slice a n c) sl') {vs vs':List Value} (hv:VRels B ρ vs vs') (hsrc:(oneCells vs=true)→vs.length=m*i.size→Src P i.size tx x' m vs' w) (hsrc0:m=0→Src P i.size tx x' 0 [] w) {K:Value→Hp→Option R} (hk:growC0 h i.size i.bytes a n c m vs K=some r):
  ∃v h' v' w',K v h'=some r∧(Builtin.append_ #[t,tx] ty #[sl',x']).run P w= .ok v' w'∧Post B W ρ h' v v' w':=by
 unfold growC0 growT0 at hk
 by_cases hm:m=0
 ·simp only [hm,decide_true,cond_true] at hk
  obtain ⟨hb,hk⟩:=needC_some hk
  obtain ⟨a',c',rfl,hn⟩:=rel_slice hx
  have hle:n≤c':=by
   cases hx with
   | slNil=>exact Nat.le_refl _
   | slOld hlt=>
    simp only [s.base,Bool.or_eq_true,Bool.not_eq_true',decide_eq_false_iff_not,decide_eq_true_eq] at hb
    omega
   | slNew _ h _=>exact h
   | slEmpty _=>exact Nat.le_refl _
   | slDang _=>exact Nat.le_refl _
  refine ⟨_,_,_,w,hk,run_append_nothing w t tx ty e i ht hi a' n c' hle x' (hsrc0 hm),Post.same s hx⟩
 ·simp only [hm,decide_false,cond_false] at hk
  obtain ⟨hb,hk1⟩:=needC_some hk
  clear hk
  simp only [Bool.and_eq_true,decide_eq_true_eq] at hb
  obtain ⟨⟨⟨b1,b2⟩,b3⟩,b4⟩:=hb
  have hS:=hsrc b4 b3
  have hlen:=hv.length
  have hsmall:=need_small b1
  have hposm:0<m:=by omega
  have grow:∀(ao:Option Addr) (cap:Nat) (olds olds':List Value),cap<n+m→VRels B ρ olds olds'→olds.length=n*i.size→(∀(j:Nat) (v:Value),olds'[j]? =some v→∃ad,ao=some ad∧w.cell? (ad.add j)=some v)→(ao=none→n=0)→
    ∀(h0:Hp),Sim B W ρ h0 w→∀par,∃v' w',(Builtin.append_ #[t,tx] ty #[.slice ao n cap,x']).run P w= .ok v' w'∧Post B W ρ (h0.alloc (olds++vs) i.size par) (.slice (some ⟨h0.next,0,none⟩) (n+m) 0) v' w':=by
   intro ao cap olds olds' hcap ho hol hoc hnn h0 s0 par
   have hfirst:(Builtin.firstCells i.size n (.slice ao n cap)).run P w.drew= .ok olds'.toArray w.drew:=by
    cases ao with
    | none=>
     have hn0:=hnn rfl
     have:olds'=[]:=by
      have h2:=ho.length
      rw [hol,hn0] at h2
      cases olds' with
      | nil=>rfl
      | cons x l=>simp at h2
     subst this
     exact run_firstCells_none w.drew _ _ _ _
    | some ad=>
     refine run_firstCells_some w.drew i.size n ad n cap olds' (by rw [←ho.length,hol]) ?_
     intro j v hjv
     obtain ⟨ad2,e2,hc⟩:=hoc j v hjv
     cases e2
     simpa using hc
   have hrun:=run_append_grow_src w t tx ty e i z ht hi hz ao n cap olds' hfirst x' m vs' hS hcap (by omega) (grown_fits hcap b1 b2)
   refine ⟨_,_,hrun, ?_⟩
   have hge:=grownCap_ge w (n+m) cap e
   have hsz:((olds'++vs').toArray++Builtin.zeroCells z.cells (grownCap w (n+m) cap e - (n+m))).size=grownCap w (n+m) cap e*i.size:=by
    have h1:olds'.length=n*i.size:=by rw [←ho.length,hol]
    have h2:vs'.length=m*i.size:=by rw [←hlen,b3]
    simp only [Array.size_append,List.size_toArray,List.length_append,h1,h2,Builtin.zeroCells,Array.size_map,Array.size_range,hzs,←Nat.add_mul]
    congr 1
    omega
   have hrel:=ho.append hv
   have S2:=s0.drew.fresh (olds++vs) i.size ((olds'++vs').toArray++Builtin.zeroCells z.cells (grownCap w (n+m) cap e - (n+m))) e
    (by rw [hsz,List.length_append,hol,b3,←Nat.add_mul]; exact Nat.mul_le_mul_right _ hge)
    (fun j v hjv=>by
     obtain ⟨v',h1,h2⟩:=hrel.get hjv
     refine ⟨v', ?_,h2⟩
     rw [Array.getElem?_append]
     have hlt:j<(olds'++vs').toArray.size:=by
      rcases Nat.lt_or_ge j (olds'++vs').length with hx | hx
      ·simpa using hx
      ·rw [List.getElem?_eq_none hx] at h1; cases h1
     rw [if_pos hlt]
     simpa using h1) par
   refine ⟨_,addP_le s0.next_none _,S2, ?_⟩
   have hp:=VRel.slNew (B:=B) (ρ:=addP ρ h0.next ⟨w.drew.heap.size,0,((olds'++vs').toArray++Builtin.zeroCells z.cells (grownCap w (n+m) cap e - (n+m))).size,i.size⟩) (r:=h0.next) (o:=0) (n:=n+m) (c:=grownCap w (n+m) cap e) (addP_self _ _) hge (by simp only [hsz]; omega)
   exact hp
  cases a with
  | none=>
   obtain ⟨hb,hk⟩:=needC_some hk1
   clear hk1
   have hn0:n=0:=of_decide_eq_true hb
   subst hn0
   cases hx
   obtain ⟨v',w',h1,h2⟩:=grow none 0 [] [] (by omega) .nil (by simp) (fun j v hv=>by simp at hv) (fun _=>rfl) h s []
   exact ⟨_,_,v',w',hk,h1,by simpa using h2⟩
  | some ad=>
   dsimp only at hk1
   split at hk1
   ·rename_i b hbn
    obtain ⟨hb,hk⟩:=needC_some hk1
    clear hk1
    simp only [Bool.and_eq_true,decide_eq_true_eq] at hb
    obtain ⟨⟨⟨⟨g1,g2⟩,g3⟩,g4⟩,g5⟩:=hb
    obtain ⟨q,o,sp⟩:=ad
    simp only at hbn g4 hk
    have hsp:sp=none:=by cases sp <;>simp at g2 ⊢
    subst hsp
    obtain ⟨l,hl,cc,tt,q1,q2,q3,q4,q5⟩:=s.new q b hbn
    have hge:=(s.dom q l hl).1
    have hsz:l.sz=i.size:=by omega
    have holds:VRels B ρ (b.cells.drop o) ((cc.toList.drop (l.base+o)).take (n*i.size))∧(b.cells.drop o).length=n*i.size:=by
     refine ⟨VRels.of_get ?_ ?_,by simp; omega⟩
     ·simp
      omega
     ·intro j u u' hu hu'
      rw [List.getElem?_drop] at hu
      obtain ⟨u2,k1,k2⟩:=q5 _ _ hu
      rw [List.getElem?_take] at hu'
      split at hu'
      ·rw [List.getElem?_drop] at hu'
       have:cc.toList[l.base+o+j]? =some u2:=by
        rw [←k1]
        simp [Nat.add_assoc]
       rw [this] at hu'
       cases hu'
       exact k2
      ·cases hu'
    have S1:=s.fence q
    cases hx with
    | slOld hlt=>simp at hlt; omega
    | slDang hlt=>simp at hlt; omega
    | @slNew _ _ _ c' l' hr hn htop=>
     rw [hl] at hr; cases hr
     by_cases hroom:n+m≤c'
     ·-- there is room: in place
      have hfit:l.base+b.cells.length+vs'.length≤cc.size:=by
       have h1:vs'.length=m*i.size:=by rw [←hlen,b3]
       have h2:(n+m)*i.size≤c'*i.size:=Nat.mul_le_mul_right _ hroom
       rw [Nat.add_mul] at h2
       rw [hsz] at htop
       omega
      have hone:=oneCells_one b4 hv
      have hoff:l.base+o+n*i.size=l.base+b.cells.length:=by omega
      have hrun:=run_append_room_src w t tx ty e i ht hi l.block (l.base+o) n c' x' m vs' hS hroom
       (fun j hj=>by
        rw [cell_of_heap q1,hoff]
        have:l.base+b.cells.length+j<cc.size:=by omega
        simp [this])
       (fun j hj=>by simp [World.frozen?,q1])
      rw [hoff] at hrun
      have S2:=s.beyond hbn hl g1 cc tt q1 vs' hfit
      have S3:=S2.fence q
      have hnw:=setCells_row l.block tt (0,0) vs' (l.base+b.cells.length) cc w q1 hfit
      have hnew:=setRow_heap w l.block cc (cc.toList.take (l.base+b.cells.length)++vs'++cc.toList.drop (l.base+b.cells.length+vs'.length)).toArray tt (0,0) q1
      rw [←hnw] at hnew
      have hnx:(h.fence q).next=h.next:=rfl
      have S4:=S3.add (b.cells.drop o++vs) i.size (q::b.par) ⟨l.block,l.base+o,l.top,i.size⟩ (s.dom q l hl).2.2.1 (S3.dom q l hl).2.2.2
       ⟨_,tt,hnew,by
         simp
         omega,by
         have h1:vs'.length=m*i.size:=by rw [←hlen,b3]
         simp only [List.length_append,List.length_drop]
         omega,rfl,by
         intro j u hu
         have hc:=splice_get cc.toList (l.base+b.cells.length) vs' (by simpa using hfit) (l.base+o+j)
         unfold splice at hc
         rw [List.getElem?_toArray,hc]
         simp only at hu
         rw [List.getElem?_append] at hu
         split at hu
         ·rename_i hj
          simp only [List.length_drop] at hj
          rw [if_neg (by omega)]
          rw [List.getElem?_drop] at hu
          obtain ⟨u2,k1,k2⟩:=q5 _ _ hu
          exact ⟨u2,by rw [←k1]; simp [Nat.add_assoc],k2.mono (addP_le S3.next_none _)⟩
         ·rename_i hj
          simp only [List.length_drop] at hj hu
          obtain ⟨u2,k1,k2⟩:=hv.get hu
          have hlt:j - (b.cells.length - o)<vs'.length:=by
           rcases Nat.lt_or_ge (j - (b.cells.length - o)) vs'.length with hx | hx
           ·exact hx
           ·rw [List.getElem?_eq_none hx] at k1; cases k1
          rw [if_pos (by omega)]
          refine ⟨u2, ?_,k2.mono (addP_le S3.next_none _)⟩
          rw [←k1]
          congr 1
          omega⟩
       (fun q2 b2 k hq2 hk2 he=>by
        rw [seal_new] at hq2
        simp only at he
        split at hq2
        ·rename_i e2
         subst e2
         rw [hbn] at hq2
         cases hq2
         rw [hl] at hk2; cases hk2
         refine ⟨by simp,rfl, ?_⟩
         simp only [List.length_append,List.length_drop]
         omega
        ·rename_i e2
         rcases s.apart q2 b2 q b k l hq2 hbn e2 hk2 hl he with ⟨x,y,zz⟩ | ⟨_,y,_⟩
         ·refine ⟨by simp [x],y, ?_⟩
          simp only [List.length_append,List.length_drop]
          omega
         ·rw [g1] at y; cases y)
      refine ⟨_,_,_,_,hk,hrun,_,addP_le s.next_none _,S4, ?_⟩
      have hp:=VRel.slNew (B:=B) (ρ:=addP ρ h.next ⟨l.block,l.base+o,l.top,i.size⟩) (r:=h.next) (o:=0) (n:=n+m) (c:=c') (addP_self _ _) hroom (by
       simp only [Nat.add_zero]
       rw [hsz] at htop
       exact htop)
      simpa using hp
     ·-- there is none
      obtain ⟨v',w',h1,h2⟩:=grow (some ⟨l.block,l.base+o,none⟩) c' _ _ (by omega) holds.1 holds.2
       (fun j u hu=>by
        refine ⟨_,rfl, ?_⟩
        rw [add_spot _ rfl,cell_of_heap q1]
        rw [List.getElem?_take] at hu
        split at hu
        ·rw [List.getElem?_drop] at hu
         simpa using hu
        ·cases hu) (fun hh=>by cases hh) (h.fence q) S1 (q::b.par)
      exact ⟨_,_,v',w',hk,h1,h2⟩
    | @slEmpty _ _ b0 l' hr=>
     obtain ⟨v',w',h1,h2⟩:=grow (some b0) 0 (b.cells.drop o) ((cc.toList.drop (l.base+o)).take (0*i.size)) (by omega) holds.1 holds.2
      (fun j u hu=>by simp at hu) (fun hh=>by cases hh) (h.fence q) S1 (q::b.par)
     exact ⟨_,_,v',w',hk,h1,h2⟩
   ·rename_i hbn
    obtain ⟨hb,hk⟩:=needC_some hk1
    clear hk1
    simp only [Bool.and_eq_true,decide_eq_true_eq] at hb
    obtain ⟨hcn,hold⟩:=hb
    rw [s.base] at hold
    split at hk
    ·rename_i cs hcs
     obtain ⟨hcl,hcg⟩:=rawCells_some hcs
     by_cases hn0:n=0
     ·have hcs0:cs=[]:=by cases cs with
       | nil=>rfl
       | cons x cs=>rw [hn0] at hcl; simp at hcl
      subst hcs0
      obtain ⟨a',c',rfl,hnn⟩:=rel_slice hx
      obtain ⟨ad',rfl⟩:∃zz,a'=some zz:=by cases a' <;>simp at hnn ⊢
      have hc0:c'≤n+m - 1:=by
       cases hx with
       | slOld _=>omega
       | slNew hr hn2 htop=>have:=(s.dom _ _ hr).1; simp at hold; omega
       | slEmpty _=>omega
       | slDang _=>omega
      obtain ⟨v',w',h1,h2⟩:=grow (some ad') c' [] [] (by omega) .nil (by simpa using hcl) (fun j v hv=>by simp at hv) (fun hh=>by cases hh) h s []
      exact ⟨_,_,v',w',hk,h1,h2⟩
     ·cases hx with
      | slOld hlt=>
       obtain ⟨vs2,hr2,hc2⟩:=s.cells (ARel.old hlt) hcg
       obtain ⟨v',w',h1,h2⟩:=grow (some ad) c cs vs2 (by omega) hr2 hcl (fun j v hv=>⟨ad,rfl,hc2 j v hv⟩) (fun hh=>by cases hh) h s []
       exact ⟨_,_,v',w',hk,h1,h2⟩
      | slNew hr hn2 htop=>have:=(s.dom _ _ hr).1; simp at hold; omega
      | slEmpty _=>exact absurd rfl hn0
      | slDang _=>exact absurd rfl hn0
    ·cases hk
theorem Sim.trunc(s:Sim B W ρ h w){q:Nat}{b:Blk}(hb:h.new q=some b)(hrw:b.rw=true)(k:Nat) :Sim B W ρ (h.write q {b with cells:=b.cells.take k} 0 []) w:=by
 have hcell:(splice (b.cells.take k) 0 [])=b.cells.take k:=by unfold splice; simp
 have hn:∀r,(h.write q {b with cells:=b.cells.take k} 0 []).new r=if r=q then some {b with cells:=b.cells.take k,par:=[]} else if r∈b.par then none else h.new r:=by
  intro r
  rw [write_new]
  simp only [hcell]
 refine ⟨s.below,s.low,s.base,s.first,s.old,s.dom, ?_,s.maps, ?_,s.mapsApart,s.free⟩
 ·intro r c hc
  rw [hn] at hc
  split at hc
  ·rename_i e
   subst e
   cases hc
   obtain ⟨l,hl,c,t,h1,h2,h3,h4,h5⟩:=s.new _ b hb
   refine ⟨l,hl,c,t,h1,h2, ?_,h4,fun i v hi=> ?_⟩
   ·simp only [List.length_take]; omega
   ·rw [List.getElem?_take] at hi
    split at hi
    ·exact h5 i v hi
    ·cases hi
  ·split at hc
   ·cases hc
   ·exact s.new r c hc
 ·intro r1 b1 r2 b2 l1 l2 h1 h2 hne hl1 hl2 he
  rw [hn] at h1 h2
  split at h1
  ·rename_i e1
   subst e1
   rw [if_neg (fun e=>hne e.symm)] at h2
   split at h2
   ·cases h2
   ·rename_i hp
    rcases s.apart _ b r2 b2 l1 l2 hb h2 hne hl1 hl2 he with ⟨_,y,_⟩ | ⟨x,_,_⟩
    ·rw [hrw] at y; cases y
    ·exact absurd x hp
  ·split at h1
   ·cases h1
   ·rename_i hp1
    split at h2
    ·rename_i e2
     subst e2
     rcases s.apart r1 b1 _ b l1 l2 h1 hb hne hl1 hl2 he with ⟨x,_,_⟩ | ⟨_,y,_⟩
     ·exact absurd x hp1
     ·rw [hrw] at y; cases y
    ·split at h2
     ·cases h2
     ·exact s.apart r1 b1 r2 b2 l1 l2 h1 h2 hne hl1 hl2 he
theorem Sim.prep(s:Sim B W ρ h w)(sz:Nat)(a:Option Addr)(n m:Nat) :Sim B W ρ (prepG h sz a n m) w:=by
 unfold prepG
 cases decide (m=0) with
 | true=>exact s
 | false=>
  simp only [cond_false]
  cases a with
  | none=>exact s
  | some ad=>
   dsimp only
   cases hb:h.new ad.block with
   | none=>exact s
   | some b=>
    dsimp only
    cases hc:(b.rw &&decide (ad.off+n*sz<b.cells.length)) with
    | true=>
     simp only [Bool.and_eq_true] at hc
     exact s.trunc hb hc.1 _
    | false=>exact s
theorem prepG_none(s n m:Nat) :prepG h s none n m=h:=by unfold prepG; cases decide (m=0) <;>rfl
theorem prepG_zero(s:Nat)(a:Option Addr)(n:Nat) :prepG h s a n 0=h:=rfl
theorem prepG_full{s n m:Nat}{ad:Addr}{b:Blk}(hb:h.new ad.block=some b)(hf:ad.off+n*s=b.cells.length) :prepG h s (some ad) n m=h:=by
 unfold prepG
 have:(b.rw &&decide (ad.off+n*s<b.cells.length))=false:=by rw [decide_eq_false (by omega)]; simp
 simp only [hb,this]
 cases decide (m=0) <;>rfl
theorem prepG_cut{s n m:Nat}{ad:Addr}{b:Blk}(hm:0<m)(hb:h.new ad.block=some b)(hw:b.rw=true)(hf:ad.off+n*s<b.cells.length) :prepG h s (some ad) n m=h.write ad.block {b with cells:=b.cells.take (ad.off+n*s)} 0 []:=by
 unfold prepG
 have:(b.rw &&decide (ad.off+n*s<b.cells.length))=true:=by rw [decide_eq_true hf,hw]; rfl
 have h0:decide (m=0)=false:=decide_eq_false (by omega)
 simp only [hb,this,h0,cond_true,cond_false]
theorem growC_sound(s:Sim B W ρ h w){a:Option Addr}{n c m:Nat}{sl' x':Value}{t tx ty e:TypeId}{i:TypeInfo}{z:Value}(ht:P.underlying t=some (.slice e))(hi:P.info? e=some i)(hz:i.zero=some z)(hzs:z.cells.size=i.size)
  (hx:VRel B ρ (.slice a n c) sl') {vs vs':List Value} (hv:VRels B ρ vs vs') (hsrc:(oneCells vs=true)→vs.length=m*i.size→Src P i.size tx x' m vs' w) (hsrc0:m=0→Src P i.size tx x' 0 [] w) {K:Value→Hp→Option R} (hk:growC h i.size i.bytes a n c m vs K=some r):
  ∃v h' v' w',K v h'=some r∧(Builtin.append_ #[t,tx] ty #[sl',x']).run P w= .ok v' w'∧Post B W ρ h' v v' w':=by
 unfold growC growT at hk
 exact growC0_sound (s.prep i.size a n m) ht hi hz hzs hx hv hsrc hsrc0 hk
end
end Go.Proofs.Ytpfploolkmcalaa.AM
end
section
namespace Go.Proofs.Ytpfploolkmcalaa.AM
open Go Go.RowKit
set_option linter.unusedSectionVars false
set_option linter.unusedSimpArgs false
set_option linter.unusedVariables false
section
variable {B:Nat} {W:World} {ρ:Places} {h h':Hp} {w:World} {P:Program} {R:Type} {r:R}
theorem stC_sound(s:Sim B W ρ h w){a:Addr}{p':Value}(hp:VRel B ρ (.pointer (some a)) p'){vs vs':List Value}(hv:VRels B ρ vs vs'){K:Hp→Option R}(hk:h.stC a vs K=some r) :
  ∃h' a' w',K h'=some r∧p'= .pointer (some a')∧(storeCells a' vs' 0).run P w= .ok () w'∧Sim B W ρ h' w':=by
 unfold Hp.stC at hk
 split at hk
 ·rename_i b hb
  obtain ⟨hn,hk⟩:=needC_some hk
  simp only [Bool.and_eq_true,decide_eq_true_eq] at hn
  obtain ⟨⟨⟨g1,g2⟩,g3⟩,g4⟩:=hn
  obtain ⟨q,o,sp⟩:=a
  have hsp:sp=none:=by cases sp <;>simp at g2 ⊢
  subst hsp
  obtain ⟨l,hl,c,t,q1,q2,q3,q4,q5⟩:=s.new q b hb
  cases hp with
  | ptrOld hlt=>have:=(s.dom q l hl).1; simp at hlt; omega
  | ptrNew hr=>
   rw [hl] at hr; cases hr
   simp only at g3
   have hlen:=hv.length
   have hrun:=run_storeCells_cells (P:=P) l.block (l.base+o) vs' 0 w
    (fun j hj=>by
     rw [cell_of_heap q1]
     have:l.base+o+j<c.size:=by omega
     simp [this])
    (fun j hj=>by simp [World.frozen?,q1]) (oneCells_one g4 hv)
   exact ⟨_,_,_,hk,rfl,hrun,by simpa using s.write hb hl g1 c t q1 o vs vs' g3 hv⟩
 ·cases hk
theorem run_bytes(b:ByteArray)(n:Nat) :(Builtin.firstCells 1 n (.string b)).run P w= .ok ((b.data.toList.take n).map fun x=>Value.int .u8 x.toNat).toArray w:=by
 simp only [Builtin.firstCells,Sem.run_pure]
 congr 1
 apply Array.ext'
 simp [ByteArray.data_extract,List.map_take]
theorem putC_sound(s:Sim B W ρ h w){a:Option Addr}{n c m:Nat}{d' x':Value}{t tx ty e:TypeId}{i:TypeInfo}(ht:P.underlying t=some (.slice e))(hi:P.info? e=some i)(hd:VRel B ρ (.slice a n c) d')
  (hlenx:(Builtin.lenOf x').run P w= .ok m w) {vs vs':List Value} (hvr:VRels B ρ vs vs') (hrun:vs.length=Nat.min m n*i.size∨Nat.min m n=0→∃us,(Builtin.firstCells i.size (Nat.min m n) x').run P w= .ok us.toArray w∧(Nat.min m n=0→us=[])∧(Nat.min m n ≠0→us=vs'))
  {K:Value→Hp→Option R} (hk:putC h i.size a (Nat.min m n) vs K=some r):
  ∃v h' v' w',K v h'=some r∧(Builtin.copy_ #[t,tx] ty #[d',x']).run P w= .ok v' w'∧Post B W ρ h' v v' w':=by
 obtain ⟨a',c',rfl,hn⟩:=rel_slice hd
 unfold putC putT at hk
 by_cases h0:Nat.min m n=0
 ·simp only [h0,decide_true,cond_true] at hk
  obtain ⟨us,hr,hz,_⟩:=hrun (.inr h0)
  have hus:=hz h0
  subst hus
  refine ⟨_,_, .int .i64 0,w,hk, ?_,Post.same s (.int _ _)⟩
  rw [h0] at hr
  cases a' <;>simp [Builtin.copy_,run_underlying ht,hlenx,h0,sizeOf,typeInfo,hi,hr,storeCells,goInt]
 ·simp only [h0,decide_false,cond_false] at hk
  split at hk
  ·rename_i ad
   obtain ⟨hb,hk1⟩:=needC_some hk
   clear hk
   have hl:=of_decide_eq_true hb
   obtain ⟨us,hr,_,hu⟩:=hrun (.inl hl)
   have hus:=hu h0
   subst hus
   have hpos:0<n:=by
    have:Nat.min m n≤n:=Nat.min_le_right _ _
    omega
   obtain ⟨ad',c2,e2,ha⟩:=rel_slice_addr hd hpos
   cases e2
   obtain ⟨h',ad2,w',h1,h2,h3,h4⟩:=stC_sound (P:=P) s ha.ptr hvr hk1
   cases h2
   refine ⟨_,_, .int .i64 (Nat.min m n:Nat),w',h1, ?_,ρ,LeP.refl ρ,h4, .int _ _⟩
   simp [Builtin.copy_,run_underlying ht,hlenx,sizeOf,typeInfo,hi,hr,h3,goInt]
  ·cases hk
theorem rels_two{x y:Value}{as':Array Value}(hv:VRels B ρ [x,y] as'.toList) :∃x' y',as'= #[x',y']∧VRel B ρ x x'∧VRel B ρ y y':=by
 generalize hl:as'.toList=l at hv
 cases hv with
 | cons a hs=>
  cases hs with
  | cons b hs2=>
   cases hs2
   exact ⟨_,_,by apply Array.ext'; exact hl,a,b⟩
theorem rels_one{x:Value}{as':Array Value}(hv:VRels B ρ [x] as'.toList) :∃x',as'= #[x']∧VRel B ρ x x':=by
 generalize hl:as'.toList=l at hv
 cases hv with
 | cons a hs=>
  cases hs
  exact ⟨_,by apply Array.ext'; exact hl,a⟩
theorem copyC_sound(s:Sim B W ρ h w){ts:Array TypeId}{as as':Array Value}{ty:TypeId}(hv:VRels B ρ as.toList as'.toList){K:Value→Hp→Option R}(hk:copyC P ts.toList as.toList h K=some r) :
  ∃v h' v' w',K v h'=some r∧(Builtin.copy_ ts ty as').run P w= .ok v' w'∧Post B W ρ h' v v' w':=by
 unfold copyC at hk
 split at hk
 ·rename_i t tx dst x hts has
  have ets:ts= #[t,tx]:=by apply Array.ext'; exact hts
  rw [has] at hv
  obtain ⟨d',x',eas,hd,hx⟩:=rels_two hv
  subst ets; subst eas
  obtain ⟨e,ht,hkA⟩:=elemC_some hk
  clear hk
  obtain ⟨i,hi,hkB⟩:=sizeC_some hkA
  clear hkA
  obtain ⟨a,n,c,rfl,hk1⟩:=asSliceC_some hkB
  clear hkB
  split at hk1
  ·obtain ⟨b,m,d,rfl,hk⟩:=asSliceC_some hk1
   clear hk1
   obtain ⟨vs,vs',b',d2,h1,h2,rfl,h3,h4⟩:=srcC_slice s hx (Nat.min_le_left m n) hk
   refine putC_sound s ht hi hd rfl h2 (fun hlen=>⟨vs', ?_,fun h0=> ?_,fun _=>rfl⟩) h1
   ·cases b with
    | none=>
     obtain ⟨rfl,rfl⟩:=h3 rfl
     cases h2
     exact run_firstCells_none w _ _ _ _
    | some ad=>
     obtain ⟨hl,ad',rfl,hc⟩:=h4 ad rfl
     exact run_firstCells_some w _ _ ad' _ _ vs' (by rw [←h2.length,hl]) hc
   ·have:=h2.length
    cases b with
    | none=>
     obtain ⟨_,rfl⟩:=h3 rfl
     cases h2
     rfl
    | some ad=>
     obtain ⟨hl,_⟩:=h4 ad rfl
     have hl2:vs.length=Nat.min m n*i.size:=hl
     rw [h0,Nat.zero_mul] at hl2
     cases vs' with
     | nil=>rfl
     | cons x l=>simp [hl2] at this
  ·obtain ⟨b,rfl,hk⟩:=asStrC_some hk1
   clear hk1
   cases hx
   unfold srcC at hk
   obtain ⟨hs1,hk1⟩:=needC_some hk
   have hs1':i.size=1:=of_decide_eq_true hs1
   refine putC_sound s ht hi hd rfl (VRels.map (f:=fun x:UInt8=>Value.int .u8 x.toNat) (g:=fun x:UInt8=>Value.int .u8 x.toNat) _ fun x _=> .int _ _) (fun _=>⟨_, ?_,fun h0=> ?_,fun _=>rfl⟩) hk1
   ·rw [hs1']
    exact run_bytes b _
   ·rw [h0]; rfl
  ·cases hk1
 ·cases hk
theorem run_len_map{ts:Array TypeId}{t k e ty:TypeId}(hu:P.underlying t=some (.map k e)){q:Nat}{c:Array MapEntry}{z:Nat}(hg:w.heap[q]? =some (.map c z)) :
  (Builtin.len_ #[t] ty #[.map (some q)]).run P w= .ok (.int .i64 c.size) w:=by
 simp only [Builtin.len_,List.getElem?_toArray,List.getElem?_cons_zero,Sem.run_bind,run_underlying hu,Result.andThen_ok]
 simp [getObj,Sem.run,hg,goInt]
theorem ERels.length{xs:List (Value×Value)}{es:List MapEntry}(h:ERels B ρ xs es) :xs.length=es.length:=by
 induction h with
 | nil=>rfl
 | cons _ _ _ _ ih=>simp [ih]
theorem lenC_sound(s:Sim B W ρ h w){ts:Array TypeId}{as as':Array Value}{ty:TypeId}(hv:VRels B ρ as.toList as'.toList){K:Value→Option R}(hk:lenC P ts.toList as.toList h K=some r) :
  ∃v,K v=some r∧VRel B ρ v v∧(Builtin.len_ ts ty as').run P w= .ok v w:=by
 unfold lenC at hk
 split at hk
 ·rename_i t x hts has
  have ets:ts= #[t]:=by apply Array.ext'; exact hts
  rw [has] at hv
  obtain ⟨x',eas,hx⟩:=rels_one hv
  subst ets; subst eas
  split at hk
  ·rename_i hu
   have hX:=asStrC_some hk
   clear hk
   obtain ⟨b,rfl,hk⟩:=hX
   cases hx
   exact ⟨_,hk, .int _ _,by simp [Builtin.len_,run_underlying hu,goInt]⟩
  ·rename_i e hu
   have hX:=asSliceC_some hk
   clear hk
   obtain ⟨a,n,c,rfl,hk⟩:=hX
   obtain ⟨a',c',rfl,_⟩:=rel_slice hx
   exact ⟨_,hk, .int _ _,by simp [Builtin.len_,run_underlying hu,goInt]⟩
  ·rename_i n e hu
   exact ⟨_,hk, .int _ _,by simp [Builtin.len_,run_underlying hu,goInt]⟩
  ·rename_i k e hu
   have hX:=asMapC_some hk
   clear hk
   obtain ⟨a,rfl,hk⟩:=hX
   cases hx with
   | mapNil=>exact ⟨_,hk, .int _ _,by simp [Builtin.len_,run_underlying hu,goInt]⟩
   | mapNew hr=>
    dsimp only at hk
    split at hk
    ·rename_i es hes
     obtain ⟨l,hl,c,z,h1,h2⟩:=s.maps _ es hes
     rw [hr] at hl; cases hl
     refine ⟨_,hk, .int _ _, ?_⟩
     rw [run_len_map (ts:= #[]) hu h1,h2.length]
     simp
    ·cases hk
  ·cases hk
 ·cases hk
theorem mostFrom_sound(big:Bool)(k:IntKind)(f:Value→Value→Sem Value)(hf:∀a b w,(f (.int k a) (.int k b)).run P w= .ok (.int k (bif big then max a b else min a b)) w) :∀{l l':List Value} {a:Int} {K:Value→Option R},VRels B ρ l l'→mostFrom big k a l K=some r→
  ∃v,K v=some r∧VRel B ρ v v∧(l'.foldlM f (.int k a)).run P w= .ok v w
 | _,_,a,K, .nil,hk=>⟨_,hk, .int _ _,rfl⟩
 | _,_,a,K, .cons hx hs,hk=>by
  rw [mostFrom] at hk
  have hX:=asIntC_some hk
  clear hk
  obtain ⟨b,e,hk1⟩:=hX
  subst e
  cases hx
  obtain ⟨v,h1,h2,h3⟩:=mostFrom_sound big k f hf hs hk1
  refine ⟨v,h1,h2, ?_⟩
  rw [List.foldlM_cons,Sem.run_bind,hf]
  exact h3
theorem mostC_sound(big:Bool){as as':Array Value}{ts:Array TypeId}{ty:TypeId}(hv:VRels B ρ as.toList as'.toList){K:Value→Option R}(hk:mostC big as.toList K=some r) :
  ∃v,K v=some r∧VRel B ρ v v∧(bif big then Builtin.max_ ts ty as' else Builtin.min_ ts ty as').run P w= .ok v w:=by
 unfold mostC at hk
 generalize hl':as'.toList=l' at hv
 generalize as.toList=l at hk hv
 cases hv with
 | nil=>cases hk
 | cons hx hs=>
  dsimp only at hk
  split at hk
  ·rename_i k a
   cases hx
   cases big with
   | true=>
    obtain ⟨v,h1,h2,h3⟩:=mostFrom_sound (P:=P) (w:=w) true k Builtin.max2 (fun a b w=>by simp only [Builtin.max2,Sem.run_pure,cond_true]; congr 2; omega) hs hk
    exact ⟨v,h1,h2,by simp only [cond_true,Builtin.max_,hl']; exact h3⟩
   | false=>
    obtain ⟨v,h1,h2,h3⟩:=mostFrom_sound (P:=P) (w:=w) false k Builtin.min2 (fun a b w=>by simp only [Builtin.min2,Sem.run_pure,cond_false]; congr 2; omega) hs hk
    exact ⟨v,h1,h2,by simp only [cond_false,Builtin.min_,hl']; exact h3⟩
  ·cases hk
theorem ldCellsC_int{k:IntKind}{a:Addr} :∀{n i:Nat} {K:List Value→Option R},h.ldCellsC a (List.replicate n (.int k 0)) i K=some r→
  ∃bs:List Int,bs.length=n∧(∀(j:Nat) (b:Int),bs[j]? =some b→h.cell (a.add (i+j))=some (.int k b))∧K (bs.map (Value.int k))=some r
 | 0,i,K,hk=>⟨[],rfl,fun j b hb=>by simp at hb,hk⟩
 | n+1,i,K,hk=>by
  rw [List.replicate_succ,Hp.ldCellsC] at hk
  unfold Hp.ldC at hk
  split at hk
  ·rename_i v hv
   have hX:=asIntC_some hk
   clear hk
   obtain ⟨b,rfl,hk⟩:=hX
   obtain ⟨bs,h1,h2,h3⟩:=ldCellsC_int hk
   refine ⟨b::bs,by simp [h1], ?_,h3⟩
   intro j c hc
   cases j with
   | zero=>simp at hc; subst hc; exact hv
   | succ j=>have:=h2 j c (by simpa using hc); rwa [show i+1+j=i+(j+1) by omega] at this
  ·cases hk
theorem convC_sound(s:Sim B W ρ h w){src dst:TypeId}{x x':Value}(hx:VRel B ρ x x'){K:Value→Option R}(hk:convC P src dst x h K=some r) :
  ∃v,K v=some r∧VRel B ρ v v∧(convert src dst x').run P w= .ok v w:=by
 unfold convC at hk
 split at hk
 ·rename_i k1 k2 h1 h2
  split at hk
  ·cases hx
   exact ⟨_,hk, .int _ _,by simp [convert,run_underlying h1,run_underlying h2,Conv.intToInt]⟩
  ·cases hk
 ·rename_i k1 h1 h2
  split at hk
  ·rename_i k n
   cases hx
   obtain ⟨hb,hk⟩:=needC_some hk
   simp only [Bool.and_eq_true,decide_eq_true_eq] at hb
   refine ⟨_,hk, .string _, ?_⟩
   have hval:Utf8.valid n=true:=by
    unfold Utf8.valid
    have:decide (0≤n)=true:=decide_eq_true hb.1
    have h2:decide (n<0xD800)=true:=decide_eq_true (by omega)
    simp [this,h2]
   have he:Utf8.encode n=⟨#[n.toNat.toUInt8]⟩:=by
    unfold Utf8.encode
    have:n.toNat<0x80:=by omega
    simp only [hval,if_true,this]
   simp [convert,run_underlying h1,run_underlying h2,Conv.intToString,he]
  ·cases hk
 ·rename_i h1 h2
  have hX:=asStrC_some hk
  clear hk
  obtain ⟨b,rfl,hk⟩:=hX
  cases hx
  exact ⟨_,hk, .string _,by simp [convert,run_underlying h1,run_underlying h2]⟩
 ·rename_i e h1 h2
  split at hk
  ·rename_i h3
   have hX:=asSliceC_some hk
   clear hk
   obtain ⟨a,n,c,rfl,hk⟩:=hX
   have gen:∀(cs:List Int) (acc:ByteArray),
     (forIn (m:=Sem) (cs.map (Value.int .u8)) acc fun c s=>match c with
      | .int .u8 n=>pure (ForInStep.yield (s.push (UInt8.ofNat n.toNat)))
      | _=>do
       stuck "bytesToString: byte expected"
       pure (ForInStep.yield s)).run P w= .ok ⟨acc.data++(cs.map fun b=>UInt8.ofNat b.toNat).toArray⟩ w:=by
    intro cs
    induction cs with
    | nil=>intro acc; simp
    | cons x cs ih=>
     intro acc
     rw [List.map_cons,List.forIn_cons]
     simp only [Sem.run_bind,Sem.run_pure,Result.andThen_ok]
     rw [ih]
     congr 2
     simp [ByteArray.push]
   split at hk
   ·cases hx
    exact ⟨_,hk, .string _,by simp [convert,run_underlying h1,run_underlying h2,run_underlying h3,Conv.bytesToString]⟩
   ·rename_i ad
    have hX:=ldCellsC_int hk
    clear hk
    obtain ⟨bs,hl,hvs,hk⟩:=hX
    refine ⟨_,hk, .string _, ?_⟩
    have rd:∀(ad':Addr) (c':Nat),(∀(j:Nat) (v:Value),(bs.map (Value.int .u8))[j]? =some v→w.cell? (ad'.add j)=some v)→(convert src dst (.slice (some ad') n c')).run P w= .ok (.string ⟨(bs.map fun b=>UInt8.ofNat b.toNat).toArray⟩) w:=by
     intro ad' c' hc
     have hr:=run_loadCells_list (P:=P) w ad' _ hc
     rw [List.length_map,hl] at hr
     have hg:=gen bs ByteArray.empty
     simp only [convert,Sem.run_bind,run_underlying h1,run_underlying h2,Result.andThen_ok]
     simp only [run_underlying h3,Conv.bytesToString,Sem.run_bind,hr,Result.andThen_ok]
     rw [←Array.forIn_toList]
     simp only [List.toList_toArray]
     exact (congrArg (fun q=>Result.andThen q (fun a w'=>Sem.run P (pure (Value.string a)) w')) hg).trans (by simp)
    have hcs:(bs.map (Value.int .u8)).map byteV=bs.map fun b=>UInt8.ofNat b.toNat:=by
     rw [List.map_map]; rfl
    rw [hcs]
    by_cases h0:n=0
    ·have:bs=[]:=by cases bs with
      | nil=>rfl
      | cons x l=>simp at hl; omega
     subst this
     obtain ⟨a',c',rfl,hn⟩:=rel_slice hx
     obtain ⟨ad',rfl⟩:∃z,a'=some z:=by cases a' <;>simp at hn ⊢
     exact rd ad' c' (fun j v hv=>by simp at hv)
    ·obtain ⟨ad',c',rfl,ha⟩:=rel_slice_addr hx (by omega)
     refine rd ad' c' (fun j v hv=> ?_)
     rw [List.getElem?_map,Option.map_eq_some_iff] at hv
     obtain ⟨b,hb,rfl⟩:=hv
     obtain ⟨v',e1,e2⟩:=s.cell (ha.add (0+j)) (hvs j b hb)
     cases e2
     simpa using e1
  ·cases hk
 ·cases hk
end
end Go.Proofs.Ytpfploolkmcalaa.AM
end
section
namespace Go.Proofs.Ytpfploolkmcalaa.AM
open Go Go.RowKit
set_option linter.unusedSectionVars false
set_option linter.unusedSimpArgs false
set_option linter.unusedVariables false
section
variable {B:Nat} {W:World} {ρ:Places} {h h':Hp} {w:World} {P:Program} {R:Type} {r:R}
theorem mapTypeC_some{t:TypeId}{K:TypeId→TypeId→Option R}(h:mapTypeC P t K=some r) :∃k e,P.underlying t=some (.map k e)∧K k e=some r:=by
 unfold mapTypeC at h
 split at h
 ·exact ⟨_,_,by assumption,h⟩
 ·cases h
theorem keyKind_cases{kt:TypeId}{x:Value}(h:keyKind P kt x=true) :(∃k n,P.underlying kt=some (.int k)∧x= .int k n)∨∃s,P.underlying kt=some .string∧x= .string s:=by
 unfold keyKind at h
 split at h
 ·rename_i k k' n hu
  have:k=k':=of_decide_eq_true h
  subst this
  exact .inl ⟨_,_,hu,rfl⟩
 ·rename_i s hu
  exact .inr ⟨_,hu,rfl⟩
 ·cases h
theorem run_checkKey{kt:TypeId}{x:Value}(hk:keyKind P kt x=true)(b:Bool)(w:World) :(Instr.checkKey b 10000 kt x).run P w= .ok () w:=by
 have gen:∀d,(Instr.checkKey b (d+1) kt x).run P w= .ok () w:=by
  intro d
  rcases keyKind_cases hk with ⟨k,n,hu,rfl⟩ | ⟨s,hu,rfl⟩ <;>simp [Instr.checkKey,run_underlying hu]
 exact gen 9999
theorem bytes_beq(s m:ByteArray) :(s==m)=decide (s=m):=by
 rw [Bool.eq_iff_iff,decide_eq_true_eq]
 cases s with
 | mk a=>
  cases m with
  | mk b=>
   constructor
   ·intro h
    have h2:(a==b)=true:=h
    rw [eq_of_beq h2]
   ·intro h
    cases h
    show (a==a)=true
    simp
theorem keyB_int{k:IntKind}{n:Int}{y:Value}{b:Bool}(h:keyB (.int k n) y=some b) :∃m,y= .int k m∧b=decide (n=m):=by
 cases y <;>simp only [keyB] at h <;>try cases h
 rename_i k2 m
 by_cases e:k=k2
 ·subst e
  simp only [decide_true,cond_true,Option.some.injEq] at h
  exact ⟨m,rfl,h.symm⟩
 ·simp [e] at h
theorem keyB_str{s:ByteArray}{y:Value}{b:Bool}(h:keyB (.string s) y=some b) :∃m,y= .string m∧b=decide (s=m):=by
 cases y <;>simp only [keyB] at h <;>try cases h
 exact ⟨_,rfl,rfl⟩
theorem look_found{d:TypeDesc}{kt:TypeId}{x:Value}(hd:P.underlying kt=some d)(hk:keyKind P kt x=true) :∀{es:List (Value×Value)} {c:List MapEntry} {q:Option Value},ERels B ρ es c→keyLook es x=some q→∀i,
  (q=none→Instr.findNow d x c i=some none∧∀u,keyPut es x u=es++[(x,u)]∧keyDrop es x=es)∧
  (∀v,q=some v→∃j e,Instr.findNow d x c i=some (some (i+j,e.val))∧c[j]? =some e∧e.key=x∧VRel B ρ v e.val∧
   (∀u u',VRel B ρ u u'→ERels B ρ (keyPut es x u) (c.modify j fun e=>{e with key:=x,val:=u'}))∧ERels B ρ (keyDrop es x) (c.eraseIdx j))
 | _,_,q, .nil,hl,i=>by
  simp only [keyLook,Option.some.injEq] at hl
  subst hl
  exact ⟨fun _=>⟨rfl,fun u=>⟨rfl,rfl⟩⟩,fun v hv=>by cases hv⟩
 | _,_,q, .cons (k:=k) (v:=v) (e:=e) (xs:=xs) (es:=es) hke hp hv hs,hl,i=>by
  have hsame:∀b,keyB x k=some b→Instr.sameNow d x e.key=some b:=by
   intro b hb
   rcases keyKind_cases hk with ⟨kk,n,hu,rfl⟩ | ⟨s,hu,rfl⟩
   ·rw [hd] at hu; cases hu
    obtain ⟨m,rfl,rfl⟩:=keyB_int hb
    rw [hke]
    simp [Instr.sameNow]
    rfl
   ·rw [hd] at hu; cases hu
    obtain ⟨m,rfl,rfl⟩:=keyB_str hb
    rw [hke]
    simp only [Instr.sameNow]
    congr 1
    exact bytes_beq s m
  have heq:keyB x k=some true→k=x:=by
   intro hb
   rcases keyKind_cases hk with ⟨kk,n,hu,rfl⟩ | ⟨s,hu,rfl⟩
   ·obtain ⟨m,rfl,e⟩:=keyB_int hb
    rw [of_decide_eq_true e.symm]
   ·obtain ⟨m,rfl,e⟩:=keyB_str hb
    rw [of_decide_eq_true e.symm]
  rw [keyLook] at hl
  cases hb:keyB x k with
  | none=>rw [hb] at hl; cases hl
  | some b=>
   rw [hb] at hl
   cases b with
   | true=>
    simp only [Option.some.injEq] at hl
    subst hl
    refine ⟨fun hq=>(by cases hq),fun v2 hv2=> ?_⟩
    cases hv2
    have hkx:=heq hb
    refine ⟨0,e, ?_,rfl,by rw [hke,hkx],hv, ?_, ?_⟩
    ·rw [Instr.findNow,hsame true hb]
     rfl
    ·intro u u' hu
     simp only [keyPut,hb,List.modify_zero_cons]
     exact .cons rfl (by rw [←hkx]; exact hp) hu hs
    ·simp only [keyDrop,hb,List.eraseIdx_zero,List.tail_cons]
     exact hs
   | false=>
    simp only at hl
    obtain ⟨h1,h2⟩:=look_found hd hk hs hl (i+1)
    refine ⟨fun hq=> ?_,fun v2 hv2=> ?_⟩
    ·obtain ⟨a,b⟩:=h1 hq
     refine ⟨by rw [Instr.findNow,hsame false hb]; exact a,fun u=> ?_⟩
     obtain ⟨b1,b2⟩:=b u
     exact ⟨by simp only [keyPut,hb,b1,List.cons_append],by simp only [keyDrop,hb,b2]⟩
    ·obtain ⟨j,e2,a1,a2,a3,a4,a5,a6⟩:=h2 v2 hv2
     refine ⟨j+1,e2, ?_,by simpa using a2,a3,a4, ?_, ?_⟩
     ·rw [Instr.findNow,hsame false hb]
      rw [a1]
      simp
      omega
     ·intro u u' hu
      simp only [keyPut,hb,List.modify_succ_cons]
      exact .cons hke hp hv (a5 u u' hu)
     ·simp only [keyDrop,hb,List.eraseIdx_cons_succ]
      exact .cons hke hp hv a6
theorem ERels.snoc{es:List (Value×Value)}{c:List MapEntry}(h:ERels B ρ es c){k v v':Value}(n:Nat)(hp:plain1 k=true)(hv:VRel B ρ v v') :ERels B ρ (es++[(k,v)]) (c++[{key:=k,val:=v',born:=n}]):=by
 induction h with
 | nil=>exact .cons rfl hp hv .nil
 | cons a b c' _ ih=>exact .cons a b c' ih
theorem run_findKey{d:TypeDesc}{kt:TypeId}{x:Value}(hd:P.underlying kt=some d){c:List MapEntry}{q:Option (Nat×Value)}(hf:Instr.findNow d x c 0=some q)(w:World) :(Instr.findKey kt x c).run P w= .ok q w:=by
 simp [Instr.findKey,run_underlying hd,hf]
theorem run_getObj_map{q:Nat}{c:Array MapEntry}{z:Nat}(hg:w.heap[q]? =some (.map c z)) :(getObj q).run P w= .ok (.map c z) w:=by simp [getObj,Sem.run,hg]
theorem run_setObj_map{q:Nat}{c:Array MapEntry}{z:Nat}(hg:w.heap[q]? =some (.map c z))(o:Obj) :(setObj q o).run P w= .ok () {w with heap:=w.heap.setIfInBounds q o}:=by simp [setObj,Sem.run,hg]
theorem keyKind_desc{kt:TypeId}{x:Value}(h:keyKind P kt x=true) :∃d,P.underlying kt=some d:=by
 rcases keyKind_cases h with ⟨k,n,hu,rfl⟩ | ⟨s,hu,rfl⟩ <;>exact ⟨_,hu⟩
theorem keyKind_same{kt:TypeId}{x x':Value}(h:keyKind P kt x=true)(hx:VRel B ρ x x') :x'=x:=by
 rcases keyKind_cases h with ⟨k,n,hu,rfl⟩ | ⟨s,hu,rfl⟩ <;>(cases hx; rfl)
theorem keyKind_plain{kt:TypeId}{x:Value}(h:keyKind P kt x=true) :plain1 x=true:=by
 rcases keyKind_cases h with ⟨k,n,hu,rfl⟩ | ⟨s,hu,rfl⟩ <;>rfl
theorem lookC_sound(s:Sim B W ρ h w){t:TypeId}{x key x' key':Value}{ok:Bool}(hx:VRel B ρ x x')(hkey:VRel B ρ key key'){K:Value→Option R}(hk:lookC P t x key ok h K=some r) :
    ∃v v',K v=some r∧VRel B ρ v v'∧(Instr.lookup t x' key' ok).run P w= .ok v' w:=by
  unfold lookC at hk
  obtain ⟨kt,e,hu,hk1⟩:=mapTypeC_some hk
  clear hk
  obtain ⟨hkk,hk⟩:=needC_some hk1
  clear hk1
  have hsame:=keyKind_same hkk hkey
  subst hsame
  obtain ⟨i,z,hi,hz,hpz,hk1⟩:=zeroC_some hk
  clear hk
  obtain ⟨d,hd⟩:=keyKind_desc hkk
  unfold mapAtC at hk1
  have hX:=asMapC_some hk1
  clear hk1
  obtain ⟨a,rfl,hk⟩:=hX
  have fin : ∀ (es : List (Value × Value)) (c : List MapEntry), ERels B ρ es c → (lkC es key' z fun v p => like2C z v fun u => K (bif ok then .tuple #[u, .bool p] else u)) = some r → ∃ v v', K v = some r ∧ VRel B ρ v v' ∧ (do
        let (v,ok2)←match←Instr.findKey kt key' c with
          | some (_,v)=>pure (v,true)
          | none=>pure (←zeroValue e,false)
        pure (if ok then .tuple #[v, .bool ok2] else v):Sem Value).run P w= .ok v' w:=by
    intro es c hes hm
    unfold lkC at hm
    rcases hl:keyLook es key' with _ | _ | v <;>rw [hl] at hm <;>dsimp only [Option.getD_some,Option.getD_none,Option.isSome_some,Option.isSome_none] at hm
    · cases hm
    rotate_left
    · have hm:=like2C_some hm
      obtain ⟨j,e2,a1,a2,a3,a4,_,_⟩:=(look_found hd hkk hes hl 0).2 v rfl
      have hf:=run_findKey (P:=P) hd a1 w
      refine ⟨_,if ok then .tuple #[e2.val, .bool true] else e2.val,hm, ?_, ?_⟩
      · cases ok
        · simpa using a4
        · simp only [cond_true,if_true]
          exact .tuple (.cons a4 (.cons (.bool _) .nil))
      · simp [hf]
    · have hm:=like2C_some hm
      obtain ⟨a1,_⟩:=(look_found hd hkk hes hl 0).1 rfl
      have hf:=run_findKey (P:=P) hd a1 w
      refine ⟨_,if ok then .tuple #[z, .bool false] else z,hm, ?_, ?_⟩
      · cases ok
        · simpa using rel_plain hpz
        · simp only [cond_true,if_true]
          exact .tuple (.cons (rel_plain hpz) (.cons (.bool _) .nil))
      · simp [hf,zeroValue,typeInfo,hi,hz]
  cases hx with
  | mapNil=>
    obtain ⟨v,v',h1,h2,h3⟩:=fin [] [] .nil hk
    refine ⟨v,v',h1,h2, ?_⟩
    simp only [Instr.lookup,Sem.run_bind,run_underlying hu,Result.andThen_ok,Sem.run_pure,run_checkKey hkk]
    simp only [Sem.run_bind] at h3
    exact h3
  | mapNew hr=>
    dsimp only at hk
    split at hk
    · rename_i es hes
      obtain ⟨l,hl,c,n,g1,g2⟩:=s.maps _ es hes
      rw [hr] at hl; cases hl
      obtain ⟨v,v',h1,h2,h3⟩:=fin es c.toList g2 hk
      refine ⟨v,v',h1,h2, ?_⟩
      simp only [Instr.lookup,Sem.run_bind,run_underlying hu,Result.andThen_ok,Sem.run_pure,run_getObj_map g1,run_checkKey hkk]
      simp only [Sem.run_bind] at h3
      exact h3
    · cases hk
theorem Below.setObj'{B q:Nat}{w:World}(hq:B≤q)(o:Obj) :Below B w {w with heap:=w.heap.setIfInBounds q o}:=
 ⟨rfl,rfl,rfl,by simp,fun k hk=>by
  show (w.heap.setIfInBounds q o)[k]? =_
  rw [Array.getElem?_setIfInBounds_ne (by omega)]⟩
theorem Sim.putMap(s:Sim B W ρ h w){q:Nat}{es es':List (Value×Value)}{l:Loc}(hq:h.maps q=some es)(hl:ρ q=some l){c:Array MapEntry}{z:Nat}(hg:w.heap[l.block]? =some (.map c z))(c':Array MapEntry)(z':Nat)(hr:ERels B ρ es' c'.toList) :
  Sim B W ρ (h.putMap q es') {w with heap:=w.heap.setIfInBounds l.block (.map c' z')}:=by
 have hB:=(s.dom q l hl).2.2.1
 have hlt:l.block<w.heap.size:=(s.dom q l hl).2.2.2
 have hbel:=Below.setObj' (w:=w) hB (.map c' z')
 have hat:(w.heap.setIfInBounds l.block (.map c' z'))[l.block]? =some (.map c' z'):=by simp [hlt]
 have hoth:∀k,k ≠l.block→(w.heap.setIfInBounds l.block (.map c' z'))[k]? =w.heap[k]? :=fun k hk=>by rw [Array.getElem?_setIfInBounds_ne (Ne.symm hk)]
 have hm:∀q2,(h.putMap q es').maps q2=if q2=q then some es' else h.maps q2:=by
  intro q2
  unfold Hp.putMap
  by_cases e:q2=q
  ·subst e; simp
  ·have:(q2==q)=false:=by simpa using e
   simp [e,this]
 refine ⟨s.below.trans hbel,s.low,s.base,s.first, ?_, ?_, ?_, ?_,s.apart, ?_,s.free⟩
 ·intro a v hav
  obtain ⟨h1,u,h2,h3⟩:=s.old a v hav
  exact ⟨h1,u,by rw [hbel.cell h1]; exact h2,h3⟩
 ·intro q2 k hq2
  obtain ⟨x,y,u,v⟩:=s.dom q2 k hq2
  exact ⟨x,y,u,by simpa using v⟩
 ·intro q2 b hq2
  obtain ⟨k,hk,cc,t,k1,krest⟩:=s.new q2 b hq2
  refine ⟨k,hk,cc,t, ?_,krest⟩
  rw [hoth _ ?_]
  ·exact k1
  ·intro e
   rw [e,hg] at k1
   cases k1
 ·intro q2 es2 hq2
  rw [hm] at hq2
  split at hq2
  ·rename_i e
   subst e
   cases hq2
   exact ⟨l,hl,c',z',hat,hr⟩
  ·rename_i e
   obtain ⟨k,hk,cc,zz,k1,k2⟩:=s.maps q2 es2 hq2
   refine ⟨k,hk,cc,zz, ?_,k2⟩
   rw [hoth _ (s.mapsApart q2 es2 q es k l hq2 hq e hk hl)]
   exact k1
 ·intro r1 e1 r2 e2 l1 l2 h1 h2 hne
  have g1:∃e,h.maps r1=some e:=by
   rw [hm] at h1
   split at h1
   ·rename_i e; subst e; exact ⟨_,hq⟩
   ·exact ⟨_,h1⟩
  have g2:∃e,h.maps r2=some e:=by
   rw [hm] at h2
   split at h2
   ·rename_i e; subst e; exact ⟨_,hq⟩
   ·exact ⟨_,h2⟩
  obtain ⟨f1,g1⟩:=g1
  obtain ⟨f2,g2⟩:=g2
  exact s.mapsApart r1 f1 r2 f2 l1 l2 g1 g2 hne
theorem run_keyThatStays{kt:TypeId}{x:Value}(hk:keyKind P kt x=true)(w:World) :(Instr.keyThatStays x x).run P w= .ok x w:=by
 have gen:∀d,Instr.sameBits d x x=true:=by
  intro d
  rcases keyKind_cases hk with ⟨k,n,hu,rfl⟩ | ⟨s,hu,rfl⟩ <;>cases d <;>simp [Instr.sameBits,bytes_beq]
 simp [Instr.keyThatStays,gen 10000]
theorem mapPutC_sound(s:Sim B W ρ h w){t:TypeId}{m key v m' key' v':Value}(hm:VRel B ρ m m')(hkey:VRel B ρ key key')(hv:VRel B ρ v v'){K:Hp→Option R}(hk:mapPutC P t m key v h K=some r) :
  ∃h' w',K h'=some r∧(Instr.mapUpdate t m' key' v').run P w= .ok () w'∧Sim B W ρ h' w':=by
 unfold mapPutC at hk
 obtain ⟨kt,e,hu,hk1⟩:=mapTypeC_some hk
 clear hk
 obtain ⟨hkk,hk⟩:=needC_some hk1
 clear hk1
 have hsame:=keyKind_same hkk hkey
 subst hsame
 obtain ⟨d,hd⟩:=keyKind_desc hkk
 have hX:=asMapC_some hk
 clear hk
 obtain ⟨a,rfl,hk⟩:=hX
 cases hm with
 | mapNil=>cases hk
 | mapNew hr=>
  dsimp only at hk
  split at hk
  ·rename_i es hes
   obtain ⟨l,hl,c,n,g1,g2⟩:=s.maps _ es hes
   rw [hr] at hl; cases hl
   split at hk
   ·rename_i q hq
    cases q with
    | none=>
     obtain ⟨a1,a2⟩:=(look_found hd hkk g2 hq 0).1 rfl
     have hf:=run_findKey (P:=P) hd a1 w
     rw [(a2 v).1] at hk
     refine ⟨_,_,hk, ?_,s.putMap hes hr g1 (c.push {key:=key',val:=v',born:=n}) (n+1) (by rw [Array.toList_push]; exact g2.snoc n (keyKind_plain hkk) hv)⟩
     simp only [Instr.mapUpdate,Sem.run_bind,run_underlying hu,Result.andThen_ok,run_getObj_map g1,run_checkKey hkk,hf]
     rw [run_setObj_map g1]
    | some q=>
     obtain ⟨j,e2,a1,a2,a3,a4,a5,_⟩:=(look_found hd hkk g2 hq 0).2 q rfl
     have hf:=run_findKey (P:=P) hd a1 w
     refine ⟨_,_,hk, ?_,s.putMap hes hr g1 (c.modify j fun e=>{e with key:=key',val:=v'}) n (by rw [Array.toList_modify]; exact a5 v v' hv)⟩
     have hcj:c[j]? =some e2:=by simpa using a2
     simp only [Instr.mapUpdate,Sem.run_bind,run_underlying hu,Result.andThen_ok,run_getObj_map g1,run_checkKey hkk,hf,Nat.zero_add,hcj,Option.map_some,Option.getD_some,a3,run_keyThatStays hkk]
     rw [run_setObj_map g1]
   ·cases hk
  ·cases hk
theorem mapDropC_sound(s:Sim B W ρ h w){ts:Array TypeId}{as as':Array Value}{ty:TypeId}(hv:VRels B ρ as.toList as'.toList){K:Value→Hp→Option R}(hk:mapDropC P ts.toList as.toList h K=some r) :
  ∃v h' v' w',K v h'=some r∧(Builtin.delete_ ts ty as').run P w= .ok v' w'∧Post B W ρ h' v v' w':=by
 unfold mapDropC at hk
 split at hk
 ·rename_i t rest m key hts has
  have ets:ts[0]? =some t:=by rw [←Array.getElem?_toList,hts]; rfl
  rw [has] at hv
  obtain ⟨m',key',eas,hm,hkey⟩:=rels_two hv
  subst eas
  obtain ⟨kt,e,hu,hk1⟩:=mapTypeC_some hk
  clear hk
  obtain ⟨hkk,hk⟩:=needC_some hk1
  clear hk1
  have hsame:=keyKind_same hkk hkey
  subst hsame
  obtain ⟨d,hd⟩:=keyKind_desc hkk
  have hX:=asMapC_some hk
  clear hk
  obtain ⟨a,rfl,hk⟩:=hX
  cases hm with
  | mapNil=>
   refine ⟨_,_, .tuple #[],w,hk, ?_,Post.same s (.tuple .nil)⟩
   simp only [Builtin.delete_,ets,List.getElem?_toArray,List.getElem?_cons_zero,List.getElem?_cons_succ,Sem.run_bind,run_underlying hu,Result.andThen_ok,run_checkKey hkk,Sem.run_pure]
  | mapNew hr=>
   dsimp only at hk
   split at hk
   ·rename_i es hes
    obtain ⟨l,hl,c,n,g1,g2⟩:=s.maps _ es hes
    rw [hr] at hl; cases hl
    split at hk
    ·rename_i q hq
     cases q with
     | none=>
      obtain ⟨a1,a2⟩:=(look_found hd hkk g2 hq 0).1 rfl
      have hf:=run_findKey (P:=P) hd a1 w
      rw [(a2 undef).2] at hk
      refine ⟨_,_, .tuple #[],_,hk, ?_,ρ,LeP.refl ρ,s.putMap hes hr g1 c n g2, .tuple .nil⟩
      simp only [Builtin.delete_,ets,List.getElem?_toArray,List.getElem?_cons_zero,List.getElem?_cons_succ,Sem.run_bind,run_underlying hu,Result.andThen_ok,run_getObj_map g1,run_checkKey hkk,hf]
      rw [run_setObj_map g1]
      rfl
     | some q=>
      obtain ⟨j,e2,a1,a2,a3,a4,_,a6⟩:=(look_found hd hkk g2 hq 0).2 q rfl
      have hf:=run_findKey (P:=P) hd a1 w
      refine ⟨_,_, .tuple #[],_,hk, ?_,ρ,LeP.refl ρ,s.putMap hes hr g1 (c.eraseIdxIfInBounds j) n (by simpa using a6), .tuple .nil⟩
      simp only [Builtin.delete_,ets,List.getElem?_toArray,List.getElem?_cons_zero,List.getElem?_cons_succ,Sem.run_bind,run_underlying hu,Result.andThen_ok,run_getObj_map g1,run_checkKey hkk,hf,Nat.zero_add]
      rw [run_setObj_map g1]
      rfl
    ·cases hk
   ·cases hk
 ·cases hk
theorem Sim.newMap(s:Sim B W ρ h w) :Sim B W (addP ρ h.next ⟨w.heap.size,0,0,0⟩) h.allocMap (w.alloc (.map #[] 0)):=by
 have s':=s.alloc (.map #[] 0)
 have hw:B≤w.heap.size:=Nat.le_trans s.low s.below.size
 have hat:(w.alloc (.map #[] 0)).heap[w.heap.size]? =some (.map #[] 0):=by show (w.heap.push _)[w.heap.size]? =_; simp
 have hm:∀q2,h.allocMap.maps q2=if q2=h.next then some [] else h.maps q2:=by
  intro q2
  unfold Hp.allocMap
  by_cases e:q2=h.next
  ·subst e; simp
  ·have:(q2==h.next)=false:=by simpa using e
   simp [e,this]
 refine ⟨s'.below,s'.low,s'.base,Nat.le_trans s.first (Nat.le_succ _), ?_, ?_, ?_, ?_, ?_, ?_,fun r hr=>by
  obtain ⟨a,b,c⟩:=s.free r hr
  refine ⟨a, ?_, ?_⟩
  ·show r<h.next+1
   omega
  ·rw [addP_other _ (by omega)]
   exact c⟩
 ·intro a v hav
  obtain ⟨h1,u,h2,h3⟩:=s'.old a v hav
  exact ⟨h1,u,h2,h3.mono (addP_le s.next_none _)⟩
 ·intro r k hr
  show B≤r∧r<h.next+1∧_
  unfold addP at hr
  split at hr
  ·rename_i e
   subst e
   cases hr
   exact ⟨s.first,by omega,hw,by show w.heap.size<(w.heap.push _).size; simp⟩
  ·obtain ⟨a,b,c,d⟩:=s'.dom r k hr
   exact ⟨a,by omega,c,d⟩
 ·intro r b hr
  have e:r ≠h.next:=by have:=(s.new_lt (r:=r) (b:=b) hr).2; omega
  obtain ⟨k,hk,hb⟩:=s'.new r b hr
  exact ⟨k,by rw [addP_other _ e]; exact hk,hb.mono (addP_le s.next_none _)⟩
 ·intro r es hr
  rw [hm] at hr
  split at hr
  ·rename_i e
   subst e
   cases hr
   exact ⟨_,addP_self _ _, #[],0,hat, .nil⟩
  ·rename_i e
   obtain ⟨k,hk,hb⟩:=s'.maps r es hr
   exact ⟨k,by rw [addP_other _ e]; exact hk,hb.mono (addP_le s.next_none _)⟩
 ·intro r1 b1 r2 b2 l1 l2 h1 h2 hne hl1 hl2
  have e1:r1 ≠h.next:=by have:=(s.new_lt (r:=r1) (b:=b1) h1).2; omega
  have e2:r2 ≠h.next:=by have:=(s.new_lt (r:=r2) (b:=b2) h2).2; omega
  rw [addP_other _ e1] at hl1
  rw [addP_other _ e2] at hl2
  exact s.apart r1 b1 r2 b2 l1 l2 h1 h2 hne hl1 hl2
 ·intro r1 e1 r2 e2 l1 l2 h1 h2 hne hl1 hl2
  rw [hm] at h1 h2
  split at h1
  ·rename_i x1
   split at h2
   ·rename_i x2; omega
   ·rename_i x2
    subst x1
    rw [addP_self] at hl1
    rw [addP_other _ x2] at hl2
    cases hl1
    have:=(s.dom r2 l2 hl2).2.2.2
    simp only
    omega
  ·rename_i x1
   split at h2
   ·rename_i x2
    subst x2
    rw [addP_self] at hl2
    rw [addP_other _ x1] at hl1
    cases hl2
    have:=(s.dom r1 l1 hl1).2.2.2
    simp only
    omega
   ·rename_i x2
    rw [addP_other _ x1] at hl1
    rw [addP_other _ x2] at hl2
    exact s.mapsApart r1 e1 r2 e2 l1 l2 h1 h2 hne hl1 hl2
end
end Go.Proofs.Ytpfploolkmcalaa.AM
end
section
namespace Go.Proofs.Ytpfploolkmcalaa.AM
open Go Go.RowKit
set_option linter.unusedSectionVars false
set_option linter.unusedSimpArgs false
set_option linter.unusedVariables false
section
variable {B:Nat} {W:World} {ρ:Places} {h h':Hp} {w:World} {P:Program}
theorem rels_args{args:Array Operand}{ev ev':Operand→Value}(hv:∀x∈args.toList,VRel B ρ (ev x) (ev' x)) :VRels B ρ (args.toList.map ev) (args.map ev').toList:=by
 rw [Array.toList_map]
 exact VRels.map _ hv
theorem part_sound{t:TypeId}{cs cs':List Value}(hr:VRels B ρ cs cs'){off:Nat}{R:Type}{r:R}{K:Value→Option R}(hk:partC P t cs off K=some r)(w:World) :
  ∃v v',K v=some r∧VRel B ρ v v'∧(part t cs'.toArray off).run P w= .ok v' w:=by
 unfold partC at hk
 obtain ⟨b,hb,hk1⟩:=aggC_some hk
 clear hk
 cases b with
 | true=>
  rw [cond_true] at hk1
  obtain ⟨i,hi,hk⟩:=sizeC_some hk1
  refine ⟨_, .agg ((cs'.drop off).take i.size).toArray,hk, .agg (by simpa using (hr.drop off).take i.size), ?_⟩
  simp only [part,Sem.run_bind,hb,Result.andThen_ok,if_true,sizeOf,typeInfo,run_program,hi,Sem.run_pure]
  congr 2
  apply Array.ext'
  simp [List.extract_eq_take_drop]
 | false=>
  rw [cond_false] at hk1
  obtain ⟨_,z,_,_,_,hk2⟩:=zeroC_some hk1
  clear hk1
  split at hk2
  ·rename_i v hv
   obtain ⟨v',h1,h2⟩:=hr.get hv
   refine ⟨v,v',like1C_some hk2,h2, ?_⟩
   have:cs'.toArray[off]? =some v':=by simpa using h1
   simp only [part,Sem.run_bind,hb,Result.andThen_ok,Bool.false_eq_true,if_false,this,Sem.run_pure]
  ·cases hk2
set_option maxHeartbeats 4000000 in
theorem opC_sound{H:Hint}(hq:EqOK P H.eqt){call:FuncId→List Value→Hp→Option (Value×Hp)}(s:Sim B W ρ h w){ev ev':Operand→Value}{o:Oper}(hv:∀x∈o.op.operands.toList,VRel B ρ (ev x) (ev' x)){v:Value}
  (hb:callB o=false) (hk:opC P H call ev o h (fun v h=>some (v,h))=some (v,h')):
  ∃n v' w',(execOp ev' o).run P w= .ok n w'∧(n= .value v'∨(n= .skip∧v'=undef))∧Post B W ρ h' v v' w':=by
 have val:∀{v':Value} {w':World} {m:Sem Value},execOp ev' o=(do pure (.value (←m)):Sem Next)→m.run P w= .ok v' w'→Post B W ρ h' v v' w'→
   ∃n v' w',(execOp ev' o).run P w= .ok n w'∧(n= .value v'∨(n= .skip∧v'=undef))∧Post B W ρ h' v v' w':=by
  intro v' w' m he hm hp
  exact ⟨_,v',w',by rw [he]; simp [hm], .inl rfl,hp⟩
 obtain ⟨dst,op,type,pos,after,guard⟩:=o
 unfold opC at hk
 dsimp only at hk hv
 split at hk
 ·-- move
  rename_i x
  cases hk
  exact ⟨_,ev' x,w,rfl, .inl rfl,Post.same s (hv x (by simp [Op.operands]))⟩
 ·-- assign
  rename_i x
  cases hk
  exact ⟨_,ev' x,w,rfl, .inl rfl,Post.same s (hv x (by simp [Op.operands]))⟩
 ·-- pick
  rename_i c a b
  have hX:=asBoolC_some hk
  clear hk
  obtain ⟨t,hc,hk⟩:=hX
  have hc':=hv c (by simp [Op.operands])
  rw [hc] at hc'
  generalize hcc:ev' c=cc at hc'
  cases hc'
  cases t with
  | true=>cases hk; exact ⟨_,ev' a,w,by simp [execOp,hcc,asBool], .inl rfl,Post.same s (hv a (by simp [Op.operands]))⟩
  | false=>cases hk; exact ⟨_,ev' b,w,by simp [execOp,hcc,asBool], .inl rfl,Post.same s (hv b (by simp [Op.operands]))⟩
 ·-- alloc
  rename_i t
  obtain ⟨i,z,hi,hz,hp,hk1⟩:=zeroC_some hk
  cases hk1
  have hzc:=plain_cells (B:=B) (ρ:=ρ) hp
  have S:=s.fresh z.cells.toList 0 z.cells t (by simp) (fun j u hu=>by
   obtain ⟨u',a,b⟩:=hzc.get hu
   exact ⟨u',by simpa using a,b⟩) []
  refine val (m:=Instr.alloc t true (.tuple #[])) rfl (v':= .pointer (some ⟨w.heap.size,0,none⟩)) ?_ ⟨_,addP_le s.next_none _,S, ?_⟩
  ·simp [Instr.alloc,zeroValue,typeInfo,hi,hz,newVar,newRow]
  ·have hp:=VRel.ptrNew (B:=B) (ρ:=addP ρ h.next ⟨w.heap.size,0,z.cells.size,0⟩) (r:=h.next) (o:=0) (addP_self _ _)
   exact hp
 ·-- box
  rename_i t x
  obtain ⟨hone,hk1⟩:=needC_some hk
  cases hk1
  have hzc:=rel_cells hone (hv x (by simp [Op.operands]))
  have S:=s.fresh (ev x).cells.toList 0 (ev' x).cells t (by rw [hzc.length]; simp) (fun j u hu=>by
   obtain ⟨u',a,b⟩:=hzc.get hu
   exact ⟨u',by simpa using a,b⟩) []
  refine val (m:=Instr.box t (ev' x)) rfl (v':= .pointer (some ⟨w.heap.size,0,none⟩)) ?_ ⟨_,addP_le s.next_none _,S, ?_⟩
  ·simp [Instr.box,newVar,newRow]
  ·have hp:=VRel.ptrNew (B:=B) (ρ:=addP ρ h.next ⟨w.heap.size,0,(ev' x).cells.size,0⟩) (r:=h.next) (o:=0) (addP_self _ _)
   exact hp
 ·-- build
  rename_i t parts
  obtain ⟨u,u',h1,h2,h3⟩:=buildC_sound (P:=P) (ρ:=ρ) (B:=B) (ev':=ev') (fun x hx=>hv x (by simpa [Op.operands] using hx)) hk w
  cases h1
  exact val rfl h3 (Post.same s h2)
 ·-- buildSlice
  rename_i t n parts
  obtain ⟨e,hu,hk1⟩:=elemC_some hk
  clear hk
  obtain ⟨i,hi,hk⟩:=sizeC_some hk1
  clear hk1
  obtain ⟨hn,hk1⟩:=needC_some hk
  clear hk
  simp only [Bool.and_eq_true,decide_eq_true_eq] at hn
  obtain ⟨i',z,hi',hz,hp,hk⟩:=zeroC_some hk1
  clear hk1
  rw [hi] at hi'; cases hi'
  have hps:=prels_map (B:=B) (ρ:=ρ) (ps:=parts) (ev:=ev) (ev':=ev') (fun x hx=>hv x (by simpa [Op.operands] using hx)) hn.2
  obtain ⟨hzs,hk1⟩:=needC_some hk
  clear hk
  have hzs':=of_decide_eq_true hzs
  split at hk1
  ·rename_i cs hf
   cases hk1
   have hzr:=zeros_rel (B:=B) (ρ:=ρ) hp (n*i.size) (fun h0=>by rw [←hzs',h0,Nat.mul_zero])
   obtain ⟨cs',hf',hr⟩:=fill_rel (B:=B) (ρ:=ρ) _ hps (cs:=(zerosOf z (n*i.size)).toArray) (cs':=(zerosOf z (n*i.size)).toArray) (by simpa using hzr) hf
   have hcs':cs'.size=n*i.size:=by
    rw [fill_size _ _ _ _ hf']
    simp [zerosOf]
   have S:=s.fresh cs.toList i.size cs' e (by rw [hr.length]; simp) (fun j u hu=>by
    obtain ⟨u',a,b⟩:=hr.get hu
    exact ⟨u',by simpa using a,b⟩) []
   refine val (m:=Instr.buildSlice t n (parts.map fun (i,x)=>(i,ev' x))) rfl (v':= .slice (some ⟨w.heap.size,0,none⟩) n n) (w':=w.alloc (.cells cs' e)) ?_ ⟨_,addP_le s.next_none _,S, ?_⟩
   ·exact run_buildSlice hu hi hz n hn.1 hf' w
   ·have hp:=VRel.slNew (B:=B) (ρ:=addP ρ h.next ⟨w.heap.size,0,cs'.size,i.size⟩) (r:=h.next) (o:=0) (n:=n) (c:=n) (addP_self _ _) (Nat.le_refl _) (by simp [hcs'])
    exact hp
  ·cases hk1
 ·-- load
  rename_i t x
  have hX:=asPtrC_some hk
  clear hk
  obtain ⟨a,ha,hk⟩:=hX
  have hx:=hv x (by simp [Op.operands])
  rw [ha] at hx
  cases a with
  | none=>cases hk
  | some ad=>
   obtain ⟨ad',e1,har⟩:=rel_ptr hx
   obtain ⟨u,u',h1,h2,h3⟩:=loadC_sound s har hk
   cases h1
   exact val rfl (by simp [Instr.loadAt,e1,Instr.sureAddr,h3]) (Post.same s h2)
 ·-- store
  rename_i t x y
  have hX:=asPtrC_some hk
  clear hk
  obtain ⟨a,ha,hk⟩:=hX
  have hx:=hv x (by simp [Op.operands])
  rw [ha] at hx
  cases a with
  | none=>cases hk
  | some ad=>
   obtain ⟨i,hi,hk1⟩:=sizeC_some hk
   clear hk
   obtain ⟨hs,hk⟩:=needC_some hk1
   clear hk1
   have hs':(ev y).cells.size=i.size:=of_decide_eq_true hs
   have hone:oneCells (ev y).cells.toList=true:=by
    unfold Hp.stC at hk
    split at hk
    ·obtain ⟨hb2,_⟩:=needC_some hk
     simp only [Bool.and_eq_true] at hb2
     exact hb2.2
    ·cases hk
   have hc:=rel_cells hone (hv y (by simp [Op.operands]))
   obtain ⟨h2,a',w',k1,k2,k3,k4⟩:=stC_sound (P:=P) s hx hc hk
   cases k1
   refine ⟨.skip,undef,w', ?_, .inr ⟨rfl,rfl⟩,ρ,LeP.refl ρ,k4, .tuple .nil⟩
   have hsz:(ev' y).cells.size=i.size:=by
    have:=hc.length
    simp at this
    omega
   simp [execOp,Instr.storeAt,k2,Instr.sureAddr,storeVar,sizeOf,typeInfo,hi,hsz,k3]
 ·-- nilCheck
  rename_i x
  have hx:=hv x (by simp [Op.operands])
  split at hk
  ·rename_i a ha
   rw [ha] at hx
   cases a with
   | none=>cases hk
   | some ad=>
    cases hk
    obtain ⟨ad',e1,har⟩:=rel_ptr hx
    exact ⟨_, .pointer (some ad'),w,by simp [execOp,e1], .inl rfl,Post.same s har.ptr⟩
  ·rename_i g f c hf
   cases hk
   rw [hf] at hx
   generalize he:ev' x=e at hx
   cases hx with
   | func _ a b=>exact ⟨_,_,w,by simp [execOp,he], .inl rfl,Post.same s (.func _ a b)⟩
  ·cases hk
 ·-- binOp
  rename_i op t x y ty
  obtain ⟨u,h1,h2,h3⟩:=binC_sound hq (X:=x) (Y:=y) (hv x (by simp [Op.operands])) (hv y (by simp [Op.operands])) hk w
  cases h1
  exact val rfl h3 (Post.same s h2)
 ·-- unOp
  rename_i op t x
  obtain ⟨u,h1,h2,h3⟩:=unC_sound (P:=P) (hv x (by simp [Op.operands])) hk w
  cases h1
  exact val rfl h3 (Post.same s h2)
 ·-- convert
  rename_i a b x
  obtain ⟨u,h1,h2,h3⟩:=convC_sound s (hv x (by simp [Op.operands])) hk
  cases h1
  exact val rfl h3 (Post.same s h2)
 ·-- makeFunc
  rename_i fn first captured
  cases hk
  refine val (m:=Instr.makeFunc fn (first.map ev') (captured.map ev')) rfl (v':= .func fn (first.map ev') (captured.map ev')) rfl (Post.same s (.func fn ?_ ?_))
  ·simp only [Array.toList_map]
   exact VRels.map _ fun x hx=>hv x (by simp [Op.operands]; exact .inl (by simpa using hx))
  ·simp only [Array.toList_map]
   exact VRels.map _ fun x hx=>hv x (by simp [Op.operands]; exact .inr (by simpa using hx))
 ·-- makeMap
  rename_i t
  obtain ⟨k,e,hu,hk1⟩:=mapTypeC_some hk
  cases hk1
  refine val (m:=Instr.makeMap t none) rfl (v':= .map (some w.heap.size)) (w':=w.alloc (.map #[] 0)) ?_ ⟨_,addP_le s.next_none _,s.newMap, ?_⟩
  ·simp [Instr.makeMap]
  ·exact VRel.mapNew (l:=⟨w.heap.size,0,0,0⟩) (addP_self _ _)
 ·-- makeSlice
  rename_i t l c
  obtain ⟨e,hu,hk1⟩:=elemC_some hk
  clear hk
  split at hk1
  ·rename_i i hi
   obtain ⟨i',z,hi',hz,hp,hk⟩:=zeroC_some hk1
   clear hk1
   rw [hi] at hi'; cases hi'
   split at hk
   ·rename_i k1 n hl
    split at hk
    ·rename_i k2 m hc
     obtain ⟨hb1,hk1⟩:=needC_some hk
     clear hk
     cases hk1
     simp only [Bool.and_eq_true,decide_eq_true_eq] at hb1
     obtain ⟨⟨⟨b1,b2⟩,b3⟩,b4⟩:=hb1
     have hl':=hv l (by simp [Op.operands])
     have hc':=hv c (by simp [Op.operands])
     rw [hl] at hl'
     rw [hc] at hc'
     generalize hel:ev' l=el at hl'
     generalize hec:ev' c=ec at hc'
     cases hl'
     cases hc'
     obtain ⟨nn,rfl⟩:∃k:Nat,n=k:=⟨n.toNat,by omega⟩
     obtain ⟨mm,rfl⟩:∃k:Nat,m=k:=⟨m.toNat,by omega⟩
     have b3':mm*(i.bytes+1)≤70368744177664:=by
      have:((mm*(i.bytes+1):Nat):Int)≤70368744177664:=by
       rw [Int.natCast_mul]
       exact b3
      omega
     have hmm:=need_small b3'
     have hby:mm*i.bytes≤70368744177664:=by
      have:mm*(i.bytes+1)=mm*i.bytes+mm:=Nat.mul_succ _ _
      omega
     have hrun:=run_make (P:=P) w t e i z hu hi hz k1 k2 (nn:Int) (mm:Int) (by omega) b2 (by rw [←Int.natCast_mul,Nat.mul_comm]; omega) (by omega)
     simp only [Int.toNat_natCast] at hrun
     have hzr:=zeros_rel (B:=B) (ρ:=ρ) hp (mm*i.size) (fun h0=>by rw [←b4,h0,Nat.mul_zero])
     have hpre:∀(j:Nat) (u:Value),(zerosOf z (nn*i.size))[j]? =some u→(zerosOf z (mm*i.size))[j]? =some u:=by
      intro j u hu
      simp only [zerosOf,List.getElem?_map,Option.map_eq_some_iff] at hu ⊢
      obtain ⟨q,hq,rfl⟩:=hu
      refine ⟨q, ?_,rfl⟩
      have hjn:j<nn*i.size:=by
       rcases Nat.lt_or_ge j (nn*i.size) with hx | hx
       ·exact hx
       ·rw [List.getElem?_eq_none (by simpa using hx)] at hq; cases hq
      have hle:nn*i.size≤mm*i.size:=Nat.mul_le_mul_right _ (by omega)
      rw [List.getElem?_range hjn] at hq
      rw [List.getElem?_range (by omega)]
      exact hq
     have S:=s.fresh (zerosOf z (nn*i.size)) i.size (madeCells z.cells (mm*i.size)) e (by
       rw [size_madeCells]
       simp only [zerosOf,List.length_map,List.length_range]
       exact Nat.mul_le_mul_right _ (by omega)) (fun j u hu=>by
      obtain ⟨u',a,b⟩:=hzr.get (hpre j u hu)
      refine ⟨u', ?_,b⟩
      have hmade:madeCells z.cells (mm*i.size)=(zerosOf z (mm*i.size)).toArray:=(zeros_eq z _).symm
      rw [hmade]
      simpa using a) []
     refine val (m:=Instr.makeSlice t (ev' l) (ev' c)) rfl (v':= .slice (some ⟨w.heap.size,0,none⟩) nn mm) (by rw [hel,hec]; exact hrun) ⟨_,addP_le s.next_none _,S, ?_⟩
     have hp:=VRel.slNew (B:=B) (ρ:=addP ρ h.next ⟨w.heap.size,0,(madeCells z.cells (mm*i.size)).size,i.size⟩) (r:=h.next) (o:=0) (n:=nn) (c:=mm) (addP_self _ _) (by omega) (by simp [size_madeCells])
     simpa using hp
    ·cases hk
   ·cases hk
  ·cases hk1
 ·-- slice
  rename_i t x lo hi
  have bnd:∀(o:Option Operand),(∀y,o=some y→VRel B ρ (ev y) (ev' y))→(0≤(o.map fun v=>boundV (ev v)).getD 0)→Bnd (o.map ev') (o.map fun v=>boundV (ev v)):=by
   intro o ho h0
   cases o with
   | none=>exact .inl ⟨rfl,rfl⟩
   | some y=>
    have hy:=ho y rfl
    simp only [Option.map_some,Option.getD_some] at h0 ⊢
    generalize ev y=a at hy h0
    generalize ev' y=b at hy
    cases hy <;>first
     | exact .inr ⟨_,_,rfl,rfl⟩
     | (simp [junk,boundV] at h0; done)
     | (simp [boundV] at h0; done)
  have hlo:∀y,lo=some y→VRel B ρ (ev y) (ev' y):=fun y hy=>hv y (by subst hy; simp [Op.operands])
  have hhi:∀y,hi=some y→VRel B ρ (ev y) (ev' y):=fun y hy=>hv y (by subst hy; simp [Op.operands])
  have hx:=hv x (by simp [Op.operands])
  split at hk
  ·rename_i hu
   have hX:=asStrC_some hk
   clear hk
   obtain ⟨b,hb2,hk⟩:=hX
   rw [hb2] at hx
   generalize hex:ev' x=ex at hx
   cases hx
   obtain ⟨hn,hk1⟩:=needC_some hk
   clear hk
   cases hk1
   simp only [Bool.and_eq_true,decide_eq_true_eq] at hn
   obtain ⟨⟨n1,n2⟩,n3⟩:=hn
   have hsh:∀{lo' hi':Option Value} {l m:Option Int},Bnd lo' l→Bnd hi' m→0≤l.getD 0→l.getD 0≤m.getD b.size→m.getD b.size≤(b.size:Int)→
     (Instr.sliceAt t (.string b) lo' hi' none).run P w= .ok (.string (b.extract (l.getD 0).toNat (m.getD b.size).toNat)) w:=by
    intro lo' hi' l m hl hm g1 g2 g3
    rcases hl with ⟨rfl,rfl⟩ | ⟨k,z,rfl,rfl⟩ <;>rcases hm with ⟨rfl,rfl⟩ | ⟨k',z',rfl,rfl⟩
    ·simp [Instr.sliceAt,run_underlying hu,Instr.slice,Instr.sliceBounds]
    ·have e1:0≤z':=by simpa using g2
     have e2:z'≤(b.size:Int):=by simpa using g3
     simp [Instr.sliceAt,run_underlying hu,Instr.slice,Instr.sliceBounds,Instr.sliceBound,asIntOf,e1,e2]
    ·have e1:0≤z:=by simpa using g1
     have e2:z≤(b.size:Int):=by simpa using g2
     simp [Instr.sliceAt,run_underlying hu,Instr.slice,Instr.sliceBounds,Instr.sliceBound,asIntOf,e1,e2]
    ·have e1:0≤z:=by simpa using g1
     have e2:z≤z':=by simpa using g2
     have e3:z'≤(b.size:Int):=by simpa using g3
     have e4:0≤z':=by omega
     have e5:z≤(z'.toNat:Int):=by omega
     have e6:¬max z' 0<z:=by omega
     simp [Instr.sliceAt,run_underlying hu,Instr.slice,Instr.sliceBounds,Instr.sliceBound,asIntOf,e1,e3,e4,e5,e6]
   have hB2:Bnd (hi.map ev') (hi.map fun v=>boundV (ev v)):=by
    cases hi with
    | none=>exact .inl ⟨rfl,rfl⟩
    | some y=>exact bnd (some y) hhi (by simp only [Option.map_some,Option.getD_some] at n2 ⊢; omega)
   have hrun:=hsh (bnd lo hlo n1) hB2 n1 n2 n3
   exact val (m:=Instr.sliceAt t (ev' x) (lo.map ev') (hi.map ev') none) rfl (by rw [hex]; exact hrun) (Post.same s (.string _))
  ·rename_i e hu
   obtain ⟨i,hi2,hk1⟩:=sizeC_some hk
   clear hk
   have hX:=asSliceC_some hk1
   clear hk1
   obtain ⟨a,n,c,ha,hk⟩:=hX
   rw [ha] at hx
   have hneg:∀(o:Option Operand),¬(0≤(o.map fun v=>boundV (ev v)).getD 0)∨(0≤(o.map fun v=>boundV (ev v)).getD 0):=fun o=>by omega
   have hkeep:=hk
   have h12:0≤(lo.map fun v=>boundV (ev v)).getD 0∧0≤(hi.map fun v=>boundV (ev v)).getD 0:=by
    have hd:∀(q:Option Int) (k:Nat),0≤q.getD (k:Int)→0≤q.getD 0:=by
     intro q k hq
     cases q with
     | none=>simp
     | some z=>exact hq
    unfold cutC cutT at hk
    split at hk
    ·obtain ⟨hb2,_⟩:=needC_some hk
     simp only [Bool.and_eq_true,decide_eq_true_eq] at hb2
     omega
    ·rename_i ad
     cases hdd:decide (ad.block<h.base) <;>rw [hdd] at hk <;>simp only [cond_true,cond_false] at hk
     ·split at hk
      ·obtain ⟨hb2,_⟩:=needC_some hk
       simp only [Bool.and_eq_true,decide_eq_true_eq] at hb2
       exact ⟨hb2.1.1.1.1,hd _ n (by omega)⟩
      ·cases hk
     ·obtain ⟨hb2,_⟩:=needC_some hk
      simp only [Bool.and_eq_true,decide_eq_true_eq] at hb2
      exact ⟨hb2.1.1.1,hd _ n (by omega)⟩
   obtain ⟨u,u',k1,k2,k3⟩:=cutC_sound s hu hi2 hx (bnd lo hlo h12.1) (bnd hi hhi h12.2) hkeep
   cases k1
   exact val (m:=Instr.sliceAt t (ev' x) (lo.map ev') (hi.map ev') none) rfl k3 (Post.same s k2)
  ·cases hk
 ·-- fieldAddr
  rename_i t x f
  unfold fieldC at hk
  split at hk
  ·rename_i fs hu
   split at hk
   ·rename_i fd hfd
    obtain ⟨i,hi,hk1⟩:=sizeC_some hk
    clear hk
    obtain ⟨hs0,hk⟩:=needC_some hk1
    clear hk1
    have hX:=asPtrC_some hk
    clear hk
    obtain ⟨a,ha,hk⟩:=hX
    have hx:=hv x (by simp [Op.operands])
    rw [ha] at hx
    cases a with
    | none=>cases hk
    | some ad=>
     cases hk
     obtain ⟨ad',e1,har⟩:=rel_ptr hx
     have hs0':¬i.size=0:=by simpa using hs0
     refine val (m:=Instr.fieldAt t (ev' x) f) rfl (v':= .pointer (some (ad'.add fd.offset))) ?_ (Post.same s (har.add _).ptr)
     simp only [Instr.fieldAt,Sem.run_bind,run_underlying hu,Result.andThen_ok,hfd,e1,Instr.sureAddr,Sem.run_pure,fieldPlace,sizeOf,typeInfo,run_program,hi,hs0',if_false]
   ·cases hk
  ·cases hk
 ·-- field
  rename_i t x f
  unfold fieldC at hk
  split at hk
  ·rename_i fs hu
   split at hk
   ·rename_i fd hfd
    have hX:=asAggC_some hk
    clear hk
    obtain ⟨cs,hcs,hk⟩:=hX
    have hx:=hv x (by simp [Op.operands])
    rw [hcs] at hx
    generalize hex:ev' x=ex at hx
    cases hx with
    | agg hr=>
     rename_i ds
     obtain ⟨u,u',k1,k2,k3⟩:=part_sound hr hk w
     cases k1
     refine val (m:=Instr.field t (ev' x) f) rfl (v':=u') ?_ (Post.same s k2)
     have e:ds.toList.toArray=ds:=by simp
     rw [e] at k3
     simp only [Instr.field,Sem.run_bind,run_underlying hu,Result.andThen_ok,hfd,hex,asAgg,Sem.run_pure]
     exact k3
   ·cases hk
  ·cases hk
 ·-- indexAddr
  rename_i t x i
  have hx:=hv x (by simp [Op.operands])
  have hii:=hv i (by simp [Op.operands])
  split at hk
  ·rename_i e hu
   obtain ⟨inf,hi,hk1⟩:=sizeC_some hk
   clear hk
   have hX:=asSliceC_some hk1
   clear hk1
   obtain ⟨a,n,c,ha,hk⟩:=hX
   rw [ha] at hx
   split at hk
   ·rename_i k j hj
    rw [hj] at hii
    generalize hei:ev' i=ei at hii
    cases hii
    obtain ⟨ad,rfl,g1,g2,hk1⟩:=idxC_some hk
    cases hk1
    obtain ⟨ad',c',e2,har⟩:=rel_slice_addr hx (by omega)
    exact val (m:=Instr.indexAt t (ev' x) (ev' i)) rfl (by rw [hei,e2]; exact run_indexAt_slice hu hi ad' n c' k j g1 g2 w) (Post.same s (har.add _).ptr)
   ·cases hk
  ·rename_i n e hu
   obtain ⟨inf,hi,hk1⟩:=sizeC_some hk
   clear hk
   have hX:=asPtrC_some hk1
   clear hk1
   obtain ⟨a,ha,hk⟩:=hX
   rw [ha] at hx
   split at hk
   ·rename_i k j hj
    rw [hj] at hii
    generalize hei:ev' i=ei at hii
    cases hii
    obtain ⟨ad,rfl,g1,g2,hk1⟩:=idxC_some hk
    cases hk1
    obtain ⟨ad',e2,har⟩:=rel_ptr hx
    exact val (m:=Instr.indexAt t (ev' x) (ev' i)) rfl (by rw [hei,e2]; exact run_indexAt_array hu hi ad' k j g1 g2 w) (Post.same s (har.add _).ptr)
   ·cases hk
  ·cases hk
 ·-- index
  rename_i t x i
  have hx:=hv x (by simp [Op.operands])
  have hii:=hv i (by simp [Op.operands])
  split at hk
  ·rename_i hu
   have hX:=asStrC_some hk
   clear hk
   obtain ⟨b,hb2,hk⟩:=hX
   rw [hb2] at hx
   split at hk
   ·rename_i k j hj
    rw [hj] at hii
    generalize hei:ev' i=ei at hii
    generalize hex:ev' x=ex at hx
    cases hii
    cases hx
    obtain ⟨hn,hk1⟩:=needC_some hk
    clear hk
    cases hk1
    simp only [Bool.and_eq_true,decide_eq_true_eq] at hn
    have hlt:j.toNat<b.size:=by omega
    refine val (m:=Instr.index t (ev' x) (ev' i)) rfl (v':= .int .u8 (b[j.toNat]!).toNat) ?_ (Post.same s (.int _ _))
    rw [hei,hex]
    have hg:b[j.toNat]? =some (b[j.toNat]!):=by
     rw [getElem?_pos b j.toNat hlt,getElem!_pos b j.toNat hlt]
    simp only [Instr.index,asIntOf,Sem.run_bind,Sem.run_pure,Result.andThen_ok,run_underlying hu,hn.1,if_true,hg]
   ·cases hk
  ·rename_i n e hu
   obtain ⟨inf,hi,hk1⟩:=sizeC_some hk
   clear hk
   have hX:=asAggC_some hk1
   clear hk1
   obtain ⟨cs,hcs,hk⟩:=hX
   rw [hcs] at hx
   split at hk
   ·rename_i k j hj
    rw [hj] at hii
    generalize hei:ev' i=ei at hii
    generalize hex:ev' x=ex at hx
    cases hii
    cases hx with
    | agg hr=>
     rename_i ds
     obtain ⟨hn,hk1⟩:=needC_some hk
     clear hk
     simp only [Bool.and_eq_true,decide_eq_true_eq] at hn
     obtain ⟨u,u',k1,k2,k3⟩:=part_sound hr hk1 w
     cases k1
     refine val (m:=Instr.index t (ev' x) (ev' i)) rfl (v':=u') ?_ (Post.same s k2)
     have e3:ds.toList.toArray=ds:=by simp
     rw [e3] at k3
     rw [hei,hex]
     simp only [Instr.index,asIntOf,Sem.run_bind,Sem.run_pure,Result.andThen_ok,run_underlying hu,hn,and_self,if_true,sizeOf,typeInfo,run_program,hi]
     exact k3
   ·cases hk
  ·cases hk
 ·-- lookup
  rename_i t x i ok
  obtain ⟨u,u',h1,h2,h3⟩:=lookC_sound s (hv x (by simp [Op.operands])) (hv i (by simp [Op.operands])) hk
  cases h1
  exact val rfl h3 (Post.same s h2)
 ·-- mapUpdate
  rename_i t m k x
  obtain ⟨h2,w',h1,h3,h4⟩:=mapPutC_sound s (hv m (by simp [Op.operands])) (hv k (by simp [Op.operands])) (hv x (by simp [Op.operands])) hk
  cases h1
  exact ⟨.skip,undef,w',by simp [execOp,h3], .inr ⟨rfl,rfl⟩,ρ,LeP.refl ρ,h4, .tuple .nil⟩
 ·-- extract
  rename_i x i
  have hx:=hv x (by simp [Op.operands])
  split at hk
  ·rename_i vs hvs
   rw [hvs] at hx
   split at hk
   ·rename_i u hu
    cases hk
    generalize he:ev' x=e at hx
    cases hx with
    | tuple hh=>
     obtain ⟨u',a,b⟩:=hh.get hu
     rename_i d
     have a':d[i]? =some u':=by rw [←Array.getElem?_toList]; exact a
     exact val (m:=Instr.extract (ev' x) i) rfl (by simp [he,Instr.extract,a']) (Post.same s b)
   ·cases hk
  ·cases hk
 ·-- builtins
  rename_i b args ts
  have hargs:=rels_args (B:=B) (ρ:=ρ) (args:=args) (ev:=ev) (ev':=ev') (fun x hx=>hv x (by simpa [Op.operands,Call.operands] using hx))
  have hargs2:VRels B ρ (args.map ev).toList (args.map ev').toList:=by rw [Array.toList_map (xs:=args)]; exact hargs
  have eargs:(args.map ev).toList=args.toList.map ev:=Array.toList_map
  rw [←eargs] at hk
  have bi:∀{v':Value} {w':World} {m:Sem Value},(∀cs,builtin b ts type cs (args.map ev')=(do pure (.value (←m)):Sem Next))→m.run P w= .ok v' w'→Post B W ρ h' v v' w'→
    ∃n v' w',(execOp ev' {dst:=dst,op:= .call {callee:= .builtin b,args:=args,argTypes:=ts},type:=type,pos:=pos,after:=after,guard:=guard}).run P w= .ok n w'∧(n= .value v'∨(n= .skip∧v'=undef))∧Post B W ρ h' v v' w':=by
   intro v' w' m he hm hp
   refine ⟨.value v',v',w', ?_, .inl rfl,hp⟩
   simp only [execOp,Sem.run_bind,resolve,Sem.run_pure,Result.andThen_ok,invoke]
   rw [he]
   simp [hm]
  split at hk
  ·-- len
   obtain ⟨u,h1,h2,h3⟩:=lenC_sound s (as:=(args.map ev)) (ty:=type) hargs2 (K:=fun v=>some (v,h)) hk
   cases h1
   exact bi (fun _=>rfl) h3 (Post.same s h2)
  ·-- append
   unfold appendC at hk
   split at hk
   ·rename_i t tx sl x hts has
    have ets:ts= #[t,tx]:=by apply Array.ext'; exact hts
    rw [has] at hargs2
    obtain ⟨sl',x',eas,hsl,hx⟩:=rels_two hargs2
    obtain ⟨e,hu,hk1⟩:=elemC_some hk
    clear hk
    obtain ⟨i,hi,hk⟩:=sizeC_some hk1
    clear hk1
    obtain ⟨i',z,hi',hz,hp,hk1⟩:=zeroC_some hk
    clear hk
    rw [hi] at hi'; cases hi'
    obtain ⟨hzs,hk⟩:=needC_some hk1
    clear hk1
    have hzs':=of_decide_eq_true hzs
    rw [hi] at hk
    dsimp only at hk
    have fin:∀{u:Value} {hh:Hp} {u':Value} {w':World},some (u,hh)=some (v,h')→(Builtin.append_ #[t,tx] type #[sl',x']).run P w= .ok u' w'→Post B W ρ hh u u' w'→
      ∃n v' w',(execOp ev' {dst:=dst,op:= .call {callee:= .builtin .append,args:=args,argTypes:=ts},type:=type,pos:=pos,after:=after,guard:=guard}).run P w= .ok n w'∧(n= .value v'∨(n= .skip∧v'=undef))∧Post B W ρ h' v v' w':=by
     intro u hh u' w' e1 e2 e3
     cases e1
     refine bi (m:=Builtin.append_ #[t,tx] type #[sl',x']) (fun _=> ?_) e2 e3
     rw [ets,eas]
     rfl
    split at hk
    ·rename_i e' hux
     have hX:=asSliceC_some hk
     clear hk
     obtain ⟨a,n,c,rfl,hk⟩:=hX
     have hX:=asSliceC_some hk
     clear hk
     obtain ⟨b,m,d,rfl,hk⟩:=hX
     obtain ⟨vs,vs',b',d2,h1,h2,rfl,h3,h4⟩:=srcC_slice s hx (Nat.le_refl m) hk
     have hsrc:vs.length=m*i.size→oneCells vs=true→Src P i.size tx (.slice b' m d2) m vs' w:=by
      intro hl ho
      cases b with
      | none=>
       obtain ⟨rfl,rfl⟩:=h3 rfl
       cases h2
       have hm:m=0:=by
        generalize hq:Value.slice none m d=q at hx
        cases hx with
        | slNil=>cases hq; rfl
        | _=>cases hq
       subst hm
       exact Src.ofNil w hux d2
      | some ad=>
       obtain ⟨hl2,ad',rfl,hc⟩:=h4 ad rfl
       exact Src.ofSlice w hux ad' m d2 vs' (by rw [←h2.length,hl2]) hc (oneCells_one ho h2)
     obtain ⟨u,hh,u',w',k1,k2,k3⟩:=growC_sound s (ty:=type) (tx:=tx) hu hi hz hzs' hsl h2 (fun ho hl=>hsrc hl ho) (fun hm=>by
      subst hm
      have hv0:vs=[]:=by
       cases b with
       | none=>exact (h3 rfl).2
       | some ad=>
        have:=(h4 ad rfl).1
        cases vs with
        | nil=>rfl
        | cons x l=>simp at this
      subst hv0
      cases h2
      exact hsrc (by simp) rfl) h1
     exact fin k1 k2 k3
    ·rename_i hux
     have hX:=asSliceC_some hk
     clear hk
     obtain ⟨a,n,c,rfl,hk⟩:=hX
     have hX:=asStrC_some hk
     clear hk
     obtain ⟨b,rfl,hk⟩:=hX
     cases hx
     unfold srcC at hk
     obtain ⟨hs1,hk1⟩:=needC_some hk
     clear hk
     have hs1':i.size=1:=of_decide_eq_true hs1
     have hall:(b.data.toList.take b.size)=b.data.toList:=List.take_of_length_le (by simp)
     rw [hall] at hk1
     have hsrc:Src P i.size tx (.string b) b.size (byteCells b) w:=by
      rw [hs1']
      exact Src.ofString w hux b
     obtain ⟨u,hh,u',w',k1,k2,k3⟩:=growC_sound s (ty:=type) (tx:=tx) hu hi hz hzs' hsl (vs':=byteCells b) (VRels.map (f:=fun x:UInt8=>Value.int .u8 x.toNat) (g:=fun x:UInt8=>Value.int .u8 x.toNat) _ fun x _=> .int _ _) (fun _ _=>hsrc) (fun hm=>by
      have hb0:byteCells b=[]:=by
       have:=byteCells_length b
       rw [hm] at this
       exact List.eq_nil_of_length_eq_zero this
      rw [hb0,hm] at hsrc
      exact hsrc) hk1
     exact fin k1 k2 k3
    ·cases hk
   ·cases hk
  ·-- copy
   obtain ⟨u,hh,u',w',h1,h3,h4⟩:=copyC_sound s (as:=(args.map ev)) (ty:=type) hargs2 (K:=fun v h=>some (v,h)) hk
   cases h1
   exact bi (fun _=>rfl) h3 h4
  ·-- min
   obtain ⟨u,h1,h2,h3⟩:=mostC_sound (P:=P) (w:=w) false (as:=(args.map ev)) (ts:=ts) (ty:=type) hargs2 (K:=fun v=>some (v,h)) hk
   cases h1
   exact bi (fun _=>rfl) (by simpa using h3) (Post.same s h2)
  ·-- max
   obtain ⟨u,h1,h2,h3⟩:=mostC_sound (P:=P) (w:=w) true (as:=(args.map ev)) (ts:=ts) (ty:=type) hargs2 (K:=fun v=>some (v,h)) hk
   cases h1
   exact bi (fun _=>rfl) (by simpa using h3) (Post.same s h2)
  ·-- delete
   obtain ⟨u,hh,u',w',h1,h3,h4⟩:=mapDropC_sound s (as:=(args.map ev)) (ty:=type) hargs2 (K:=fun v h=>some (v,h)) hk
   cases h1
   exact bi (fun _=>rfl) h3 h4
  ·cases hk
 ·simp [callB] at hb
 ·-- insert
  rename_i t m k x
  obtain ⟨h2,w',h1,h3,h4⟩:=mapPutC_sound s (hv m (by simp [Op.operands])) (hv k (by simp [Op.operands])) (hv x (by simp [Op.operands])) hk
  cases h1
  exact ⟨.skip,undef,w',by simp [execOp,h3], .inr ⟨rfl,rfl⟩,ρ,LeP.refl ρ,h4, .tuple .nil⟩
 ·cases hk
end
end Go.Proofs.Ytpfploolkmcalaa.AM
end
