/- Merged: Vm6 Vm7 Vm8 Vm9 Vm10 Vm11 Vm12 Vm13 Vm14. Conditions: none. -/
import Derived.Test.YtpfploolkmcalaaVmA
import Derived.Test.YtpfploolkmcalaaAmD
set_option linter.all false
section
namespace Go.Proofs.Ytpfploolkmcalaa.VM
set_option linter.unusedVariables false
open Go AM
set_option linter.unusedSectionVars false
set_option linter.unusedSimpArgs false
inductive All2 {A B:Type} (R:A→B→Prop):List A→List B→Prop
 | nil:All2 R [] []
 | cons {x y xs ys} (h:R x y) (hs:All2 R xs ys):All2 R (x::xs) (y::ys)
namespace All2
variable {A B:Type} {R R':A→B→Prop}
theorem length :∀{xs:List A} {ys:List B},All2 R xs ys→xs.length=ys.length
 | _,_, .nil=>rfl
 | _,_, .cons _ hs=>by simp [length hs]
theorem get :∀{xs:List A} {ys:List B},All2 R xs ys→∀{i:Nat} {x:A},xs[i]? =some x→∃y,ys[i]? =some y∧R x y
 | _,_, .nil,i,x,h=>by simp at h
 | _,_, .cons (y:=y) hx hs,0,x,h=>by
  simp only [List.getElem?_cons_zero,Option.some.injEq] at h
  subst h
  exact ⟨_,rfl,hx⟩
 | _,_, .cons hx hs,i+1,x,h=>by
  simp only [List.getElem?_cons_succ] at h ⊢
  exact get hs h
theorem imp(hi:∀x y,R x y→R' x y) :∀{xs:List A} {ys:List B},All2 R xs ys→All2 R' xs ys
 | _,_, .nil=> .nil
 | _,_, .cons h hs=> .cons (hi _ _ h) (imp hi hs)
theorem append :∀{xs us:List A} {ys vs:List B},All2 R xs ys→All2 R us vs→All2 R (xs++us) (ys++vs)
 | _,_,_,_, .nil,h=>h
 | _,_,_,_, .cons hx hs,h=> .cons hx (append hs h)
theorem take :∀{xs:List A} {ys:List B} (n:Nat),All2 R xs ys→All2 R (xs.take n) (ys.take n)
 | _,_,0,_=>by simpa using All2.nil
 | _,_,n+1, .nil=>by simpa using All2.nil
 | _,_,n+1, .cons hx hs=>by simpa using All2.cons hx (take n hs)
theorem drop :∀{xs:List A} {ys:List B} (n:Nat),All2 R xs ys→All2 R (xs.drop n) (ys.drop n)
 | _,_,0,h=>by simpa using h
 | _,_,n+1, .nil=>by simpa using All2.nil
 | _,_,n+1, .cons hx hs=>by simpa using drop n hs
theorem of_get :∀{xs:List A} {ys:List B},xs.length=ys.length→(∀(i:Nat) (x:A) (y:B),xs[i]? =some x→ys[i]? =some y→R x y)→All2 R xs ys
 | [],[],_,_=> .nil
 | [],_::_,h,_=>by simp at h
 | _::_,[],h,_=>by simp at h
 | x::xs,y::ys,hl,h=> .cons (h 0 x y rfl rfl) (of_get (by simpa using hl) fun i v v' h1 h2=>h (i+1) v v' (by simpa using h1) (by simpa using h2))
theorem map{C D:Type}{S:C→D→Prop}{f:A→C}{g:B→D}(hi:∀x y,R x y→S (f x) (g y)) :∀{xs:List A} {ys:List B},All2 R xs ys→All2 S (xs.map f) (ys.map g)
 | _,_, .nil=> .nil
 | _,_, .cons h hs=> .cons (hi _ _ h) (map hi hs)
theorem set :∀{xs:List A} {ys:List B} {x:A} {y:B} (i:Nat),All2 R xs ys→R x y→All2 R (xs.set i x) (ys.set i y)
 | _,_,_,_,_, .nil,_=> .nil
 | _,_,_,_,0, .cons hx hs,h=> .cons h hs
 | _,_,_,_,i+1, .cons hx hs,h=> .cons hx (set i hs h)
theorem replicate{x:A}{y:B}(h:R x y) :∀n,All2 R (List.replicate n x) (List.replicate n y)
 | 0=> .nil
 | n+1=>by simpa [List.replicate_succ] using All2.cons h (replicate h n)
end All2
structure Fz where
 cell:Addr→Value→Prop
 sl:Addr→Nat→Nat→Nat→Prop
structure Fz.le (z z':Fz):Prop where
 cell:∀a v,z.cell a v→z'.cell a v
 sl:∀a s n c,z.sl a s n c→z'.sl a s n c
theorem Fz.le_refl(z:Fz) :Fz.le z z:=⟨fun _ _ h=>h,fun _ _ _ _ h=>h⟩
theorem Fz.le_trans{a b c:Fz}(h:Fz.le a b)(k:Fz.le b c) :Fz.le a c:=⟨fun x v hx=>k.cell x v (h.cell x v hx),fun x s n c hx=>k.sl x s n c (h.sl x s n c hx)⟩
inductive SR (z:Fz):T→Value→Prop
 | int (k:IntKind) (n:Int):SR z (.int k n) (.int k n)
 | bool (b:Bool):SR z (.bool b) (.bool b)
 | str (s:ByteArray):SR z (.str s) (.string s)
 | nil (sz:Nat):SR z (.list sz false []) (.slice none 0 0)
 | list {sz:Nat} {l:List T} {a:Addr} {c:Nat} (f:Nat→Value) (hs:z.sl a sz l.length c) (hn:∀x∈l,x.cells.length=sz) (hc:∀j,j<l.length*sz→z.cell (a.add j) (f j))
   (he:∀i x j y,l[i]? =some x→x.cells[j]? =some y→SR z y (f (i*sz+j))):SR z (.list sz true l) (.slice (some a) l.length c)
abbrev SRs(z:Fz) :=All2 (SR z)
inductive Gk where
 | arr (sz:Nat) (nn:Bool) (n:Nat) | var (n:Nat) | av (n:Nat) | map
structure Gh where
 r:Nat
 kind:Gk
abbrev GM :=Nat→Option Gh
def kindOf :Blk→Gk
 | .arr _ sz nn l=> .arr sz nn l.length
 | .var cs=> .var cs.length
 | .av l=> .av l.length
 | .map _=> .map
 | .rows _ l=> .arr 1 true l.length
mutual
inductive VR (z:Fz) (G:GM):V→Value→Prop
 | t {x:T} {v:Value} (h:SR z x v):VR z G (.t x) v
 | tagg {cs:List T} {vs:Array Value} (h:SRs z cs vs.toList):VR z G (.t (.agg cs)) (.agg vs)
 | con {v:Value} (h:plain1 v=true):VR z G (.con v) v
 | bufNil {id r sz n:Nat} (h:G id=some ⟨r, .arr sz false n⟩):VR z G (.buf id) (.slice none 0 0)
 | buf {id r sz n:Nat} (h:G id=some ⟨r, .arr sz true n⟩):VR z G (.buf id) (.slice (some ⟨r,0,none⟩) n 0)
 | ptrA {id i off r sz n:Nat} (h:G id=some ⟨r, .arr sz true n⟩):VR z G (.ptr id i off) (.pointer (some ⟨r,i*sz+off,none⟩))
 | ptrV {id i off r n:Nat} (h:G id=some ⟨r, .var n⟩):VR z G (.ptr id i off) (.pointer (some ⟨r,off,none⟩))
 | ptrW {id i off r n:Nat} (h:G id=some ⟨r, .av n⟩):VR z G (.ptr id i off) (.pointer (some ⟨r,off,none⟩))
 | pt {x:T} {a:Addr} (f:Nat→Value) (h:∀j y,x.cells[j]? =some y→z.cell (a.add j) (f j)∧SR z y (f j)):VR z G (.pt x) (.pointer (some a))
 | map {id r:Nat} (h:G id=some ⟨r, .map⟩):VR z G (.map id) (.map (some r))
 | fn (g:FuncId) {f c:List V} {fa ca:Array Value} (hf:VRs z G f fa.toList) (hc:VRs z G c ca.toList):VR z G (.fn g f c) (.func (.func g) fa ca)
 | agg {vs:List V} {a:Array Value} (h:VRs z G vs a.toList):VR z G (.agg vs) (.agg a)
 | tup {vs:List V} {a:Array Value} (h:VRs z G vs a.toList):VR z G (.tup vs) (.tuple a)
 | junk (v:Value):VR z G .junk v
inductive VRs (z:Fz) (G:GM):List V→List Value→Prop
 | nil:VRs z G [] []
 | cons {x y xs ys} (h:VR z G x y) (hs:VRs z G xs ys):VRs z G (x::xs) (y::ys)
end
def LeG(G G':GM) :Prop:=∀id g,G id=some g→G' id=some g
theorem LeG.refl(G:GM) :LeG G G:=fun _ _ h=>h
theorem LeG.trans{a b c:GM}(h:LeG a b)(k:LeG b c) :LeG a c:=fun i g hr=>k i g (h i g hr)
theorem SR.mono{z z':Fz}(hz:Fz.le z z') :∀{x:T} {v:Value},SR z x v→SR z' x v:=by
 intro x v h
 induction h with
 | int k n=>exact .int k n
 | bool b=>exact .bool b
 | str s=>exact .str s
 | nil sz=>exact .nil sz
 | list f hs hn hc he ih=>exact .list f (hz.sl _ _ _ _ hs) hn (fun j hj=>hz.cell _ _ (hc j hj)) ih
mutual
theorem VR.mono{z z':Fz}{G G':GM}(hz:Fz.le z z')(hG:LeG G G') :∀{x:V} {v:Value},VR z G x v→VR z' G' x v
 | _,_, .t h=> .t (h.mono hz)
 | _,_, .tagg h=> .tagg (h.imp fun _ _ h=>h.mono hz)
 | _,_, .con h=> .con h
 | _,_, .bufNil h=> .bufNil (hG _ _ h)
 | _,_, .buf h=> .buf (hG _ _ h)
 | _,_, .ptrA h=> .ptrA (hG _ _ h)
 | _,_, .ptrV h=> .ptrV (hG _ _ h)
 | _,_, .ptrW h=> .ptrW (hG _ _ h)
 | _,_, .pt f h=> .pt f fun j y hj=>let ⟨a,b⟩:=h j y hj; ⟨hz.cell _ _ a,b.mono hz⟩
 | _,_, .map h=> .map (hG _ _ h)
 | _,_, .fn g hf hc=> .fn g (VRs.mono hz hG hf) (VRs.mono hz hG hc)
 | _,_, .agg h=> .agg (VRs.mono hz hG h)
 | _,_, .tup h=> .tup (VRs.mono hz hG h)
 | _,_, .junk v=> .junk v
theorem VRs.mono{z z':Fz}{G G':GM}(hz:Fz.le z z')(hG:LeG G G') :∀{xs:List V} {vs:List Value},VRs z G xs vs→VRs z' G' xs vs
 | _,_, .nil=> .nil
 | _,_, .cons h hs=> .cons (VR.mono hz hG h) (VRs.mono hz hG hs)
end
theorem VRs.all{z:Fz}{G:GM} :∀{xs:List V} {vs:List Value},VRs z G xs vs→All2 (VR z G) xs vs
 | _,_, .nil=> .nil
 | _,_, .cons h hs=> .cons h hs.all
theorem VRs.of{z:Fz}{G:GM} :∀{xs:List V} {vs:List Value},All2 (VR z G) xs vs→VRs z G xs vs
 | _,_, .nil=> .nil
 | _,_, .cons h hs=> .cons h (VRs.of hs)
/-! ### the frozen part of a heap -/
abbrev NS :=Nat→Prop
def fz(F:NS)(h:Hp) :Fz where
 cell:=fun a v=>(a.block<h.base∨F a.block)∧h.cell a=some v
 sl:=fun a s n c=>(a.block<h.base∧n≤c)∨(F a.block∧h.base≤a.block∧a.spot=none∧∃b,h.new a.block=some b∧b.sz=s)
structure Ext (F N:NS) (h h':Hp):Prop where
 base:h'.base=h.base
 old:h'.old=h.old
 next:h.next≤h'.next
 keep:∀r,F r∨N r→h'.new r=h.new r∧h'.maps r=h.maps r
 low:∀r,r<h.base→h'.new r=h.new r
theorem Ext.refl(F N:NS)(h:Hp) :Ext F N h h:=⟨rfl,rfl,Nat.le_refl _,fun _ _=>⟨rfl,rfl⟩,fun _ _=>rfl⟩
def Sub(F F':NS) :Prop:=∀r,F r→F' r
theorem Ext.trans{F F' N:NS}{a b c:Hp}(x:Ext F N a b)(hs:Sub F F')(y:Ext F' N b c) :Ext F N a c:=
 ⟨y.base.trans x.base,y.old.trans x.old,Nat.le_trans x.next y.next,fun r hr=>by
  have h1:=x.keep r hr
  have h2:=y.keep r (hr.imp (hs r) id)
  exact ⟨h2.1.trans h1.1,h2.2.trans h1.2⟩,fun r hr=>(y.low r (x.base▸hr)).trans (x.low r hr)⟩
theorem Ext.fz{F F' N:NS}{h h':Hp}(x:Ext F N h h')(hs:Sub F F') :Fz.le (fz F h) (fz F' h'):=by
 have hc:∀a:Addr,(a.block<h.base∨F a.block)→h'.cell a=h.cell a:=by
  intro a ha
  unfold Hp.cell
  have:h'.new a.block=h.new a.block:=by
   rcases ha with ha | ha
   ·exact x.low _ ha
   ·exact (x.keep _ (.inl ha)).1
  rw [this,x.old]
 constructor
 ·rintro a v ⟨h1,h2⟩
  exact ⟨h1.imp (fun h=>x.base▸h) (hs _),(hc a h1).trans h2⟩
 ·rintro a s n c (⟨h1,h2⟩ | ⟨h1,h2,h3,b,h4,h5⟩)
  ·exact .inl ⟨x.base▸h1,h2⟩
  ·exact .inr ⟨hs _ h1,x.base▸h2,h3,b,((x.keep _ (.inl h1)).1).trans h4,h5⟩
/-! ### blocks -/
def keyR(k:T)(v:Value) :Prop:=(∃kd n,k= .int kd n∧v= .int kd n)∨(∃s,k= .str s∧v= .string s)
inductive TR (z:Fz):T→Value→Prop
 | one {x:T} {v:Value} (h:SR z x v):TR z x v
 | agg {cs:List T} {vs:Array Value} (h:SRs z cs vs.toList):TR z (.agg cs) (.agg vs)
structure Cells (z:Fz) (sz:Nat) (l:List T) (cs:List Value):Prop where
 len:l.length*sz≤cs.length
 each:∀x∈l,x.cells.length=sz
 at_:∀i x j y,l[i]? =some x→x.cells[j]? =some y→∃v,cs[i*sz+j]? =some v∧SR z y v
def BR(F N:NS)(G:GM)(h:Hp)(r:Nat) :Blk→Prop
 | .arr own sz nn l=>(nn=false∧l=[])∨(nn=true∧∃b,h.new r=some b∧b.sz=sz∧Cells (fz F h) sz l b.cells∧(own=true→b.rw=true)∧(own=false→F r))
 | .var cs=>∃b,h.new r=some b∧b.rw=true∧b.par=[]∧All2 (VR (fz F h) G) cs b.cells
 | .av l=>∃b,h.new r=some b∧b.rw=true∧b.par=[]∧SRs (fz F h) l b.cells
 | .map es=>∃es',h.maps r=some es'∧All2 (fun (x:T×T) (y:Value×Value)=>keyR x.1 y.1∧TR (fz F h) x.2 y.2) es es'
 | .rows _ _=>True
def real :Blk→Bool
 | .arr _ _ nn _=>nn
 | .rows .. =>false
 | _=>true
structure Sm (F N:NS) (G:GM) (st:St) (h:Hp):Prop where
 ok:HpOk h
 fLt:∀r,F r∨N r→r<h.next
 blk:∀id b,st.blks.get id=some b→∃r,G id=some ⟨r,kindOf b⟩∧BR F N G h r b
 inj:∀id1 b1 id2 b2 r k1 k2,st.blks.get id1=some b1→st.blks.get id2=some b2→real b1=true→real b2=true→G id1=some ⟨r,k1⟩→G id2=some ⟨r,k2⟩→id1=id2
 apart:∀id b r k,st.blks.get id=some b→wr b=true→G id=some ⟨r,k⟩→¬F r∧¬N r∧∀c,h.new r=some c→∀q∈c.par,q<r∧¬F q∧¬N q∧∀id2 b2 k2,st.blks.get id2=some b2→real b2=true→G id2 ≠some ⟨q,k2⟩
 gUsed:∀id g,G id=some g→id<500∨id∈st.used
structure Lw (L:Nat) (G:GM) (st:St) (h:Hp):Prop where
 low:L≤h.low
 next:L≤h.next
 blk:∀id b r k,st.blks.get id=some b→wr b=true→G id=some ⟨r,k⟩→L≤r∧∀c,h.new r=some c→∀q∈c.par,L≤q
structure Step (F N:NS) (G:GM) (st:St) (h:Hp) (F':NS) (G':GM) (st':St) (h':Hp):Prop where
 sm:Sm F' N G' st' h'
 f:Sub F F'
 g:LeG G G'
 ext:Ext F N h h'
 lw:∀L,Lw L G st h→Lw L G' st' h'
 ori:∀id b r k,st'.blks.get id=some b→real b=true→G' id=some ⟨r,k⟩→h.next≤r∨∃id0 b0 k0,st.blks.get id0=some b0∧real b0=true∧G id0=some ⟨r,k0⟩
 ids:∀id b,st'.blks.get id=some b→id<500→∃b0,st.blks.get id=some b0
 fo:∀r,F' r→F r∨h.next≤r∨∃id b k,st.blks.get id=some b∧real b=true∧G id=some ⟨r,k⟩
 rows:∀id b,st'.blks.get id=some b→isRows b=true→st.blks.get id=some b
theorem Step.refl{F N:NS}{G:GM}{st:St}{h:Hp}(s:Sm F N G st h) :Step F N G st h F G st h:=
 ⟨s,fun _ h=>h,LeG.refl _,Ext.refl _ _ _,fun _ h=>h,fun id b r k h1 h2 h3=> .inr ⟨id,b,k,h1,h2,h3⟩,fun id b h1 _=>⟨b,h1⟩,fun _ h=> .inl h,fun _ _ h _=>h⟩
theorem Step.trans{F N F1 F2:NS}{G G1 G2:GM}{s s1 s2:St}{h h1 h2:Hp}(x:Step F N G s h F1 G1 s1 h1)(y:Step F1 N G1 s1 h1 F2 G2 s2 h2) :Step F N G s h F2 G2 s2 h2:=
 ⟨y.sm,fun r hr=>y.f r (x.f r hr),x.g.trans y.g,x.ext.trans x.f y.ext,fun L hL=>y.lw L (x.lw L hL),fun id b r k a1 a2 a3=>by
  rcases y.ori id b r k a1 a2 a3 with h | ⟨id0,b0,k0,h0,h1,h2⟩
  ·exact .inl (Nat.le_trans x.ext.next h)
  ·exact x.ori id0 b0 r k0 h0 h1 h2,fun id b a1 a2=>by
  obtain ⟨b0,hb⟩:=y.ids id b a1 a2
  exact x.ids id b0 hb a2,fun r hr=>by
  rcases y.fo r hr with h | h | ⟨id,b,k,h1,h2,h3⟩
  ·exact x.fo r h
  ·exact .inr (.inl (Nat.le_trans x.ext.next h))
  ·exact .inr (x.ori id b r k h1 h2 h3),fun id b h1 h2=>x.rows id b (y.rows id b h1 h2) h2⟩
theorem Step.le{F N F1:NS}{G G1:GM}{s s1:St}{h h1:Hp}(x:Step F N G s h F1 G1 s1 h1) :Fz.le (fz F h) (fz F1 h1):=x.ext.fz x.f
theorem Step.vr{F N F1:NS}{G G1:GM}{s s1:St}{h h1:Hp}(x:Step F N G s h F1 G1 s1 h1){v:V}{u:Value}(hv:VR (fz F h) G v u) :VR (fz F1 h1) G1 v u:=hv.mono x.le x.g
def RU(st:St) :Prop:=∀id1 b1 id2 b2,st.blks.get id1=some b1→st.blks.get id2=some b2→isRows b1=true→isRows b2=true→id1=id2
structure Evo (F N:NS) (G:GM) (st:St) (h:Hp) (F':NS) (G':GM) (st':St) (h':Hp):Prop where
 sm:Sm F' N G' st' h'
 f:Sub F F'
 ext:Ext F N h h'
 lw:∀L,Lw L G st h→Lw L G' st' h'
 ori:∀id b r k,st'.blks.get id=some b→real b=true→G' id=some ⟨r,k⟩→h.next≤r∨∃id0 b0 k0,st.blks.get id0=some b0∧real b0=true∧G id0=some ⟨r,k0⟩
 ids:∀id b,st'.blks.get id=some b→id<8→∃b0,st.blks.get id=some b0∧G' id=G id
 fo:∀r,F' r→F r∨h.next≤r∨∃id b k,st.blks.get id=some b∧real b=true∧G id=some ⟨r,k⟩
 rows:∀id b,st'.blks.get id=some b→isRows b=true→∃id0 g,st.blks.get id0=some b∧G id0=some g∧G' id=some g
 ru:RU st→RU st'
theorem Step.evo{F N F':NS}{G G':GM}{st st':St}{h h':Hp}(s:Sm F N G st h)(x:Step F N G st h F' G' st' h') :Evo F N G st h F' G' st' h':=
 ⟨x.sm,x.f,x.ext,x.lw,x.ori,fun id b h1 h2=>by
  obtain ⟨b0,hb⟩:=x.ids id b h1 (by omega)
  obtain ⟨r,hr,_⟩:=s.blk id b0 hb
  exact ⟨b0,hb,by rw [hr]; exact x.g _ _ hr⟩,x.fo,fun id b h1 h2=>by
  have h3:=x.rows id b h1 h2
  obtain ⟨r,hr,_⟩:=s.blk id b h3
  exact ⟨id,_,h3,hr,x.g _ _ hr⟩,fun hu id1 b1 id2 b2 g1 g2 r1 r2=>hu _ _ _ _ (x.rows _ _ g1 r1) (x.rows _ _ g2 r2) r1 r2⟩
theorem Evo.trans{F N F1 F2:NS}{G G1 G2:GM}{s s1 s2:St}{h h1 h2:Hp}(x:Evo F N G s h F1 G1 s1 h1)(y:Evo F1 N G1 s1 h1 F2 G2 s2 h2) :Evo F N G s h F2 G2 s2 h2:=
 ⟨y.sm,fun r hr=>y.f r (x.f r hr),x.ext.trans x.f y.ext,fun L hL=>y.lw L (x.lw L hL),fun id b r k a1 a2 a3=>by
  rcases y.ori id b r k a1 a2 a3 with h | ⟨id0,b0,k0,h0,h1,h2⟩
  ·exact .inl (Nat.le_trans x.ext.next h)
  ·exact x.ori id0 b0 r k0 h0 h1 h2,fun id b a1 a2=>by
  obtain ⟨b0,hb,e1⟩:=y.ids id b a1 a2
  obtain ⟨b1,hb1,e2⟩:=x.ids id b0 hb a2
  exact ⟨b1,hb1,e1.trans e2⟩,fun r hr=>by
  rcases y.fo r hr with h | h | ⟨id,b,k,h1,h2,h3⟩
  ·exact x.fo r h
  ·exact .inr (.inl (Nat.le_trans x.ext.next h))
  ·exact .inr (x.ori id b r k h1 h2 h3),fun id b h1 h2=>by
  obtain ⟨id1,g1,a1,a2,a3⟩:=y.rows id b h1 h2
  obtain ⟨id0,g0,c1,c2,c3⟩:=x.rows id1 b a1 h2
  rw [a2] at c3
  cases c3
  exact ⟨id0,_,c1,c2,a3⟩,fun hu=>y.ru (x.ru hu)⟩
theorem Evo.le{F N F1:NS}{G G1:GM}{s s1:St}{h h1:Hp}(x:Evo F N G s h F1 G1 s1 h1) :Fz.le (fz F h) (fz F1 h1):=x.ext.fz x.f
section
theorem get_set(bs:Bs)(id:Nat)(b:Blk)(q:Nat) :(bs.set id b).get q=if q=id then (bs.get id).map (fun _=>b) else bs.get q:=by
 induction bs with
 | nil=>simp [Bs.set,Bs.get]
 | cons x l ih=>
  obtain ⟨i,c⟩:=x
  simp only [Bs.set,Bs.get]
  by_cases hi:i=id
  ·subst hi
   simp only [BEq.rfl,cond_true,Bs.get]
   by_cases hq:q=i
   ·subst hq; simp
   ·have:(i==q)=false:=by simpa using fun h=>hq h.symm
    simp [this,hq]
  ·have h1:(i==id)=false:=by simpa using hi
   simp only [h1,cond_false,Bs.get,ih]
   by_cases hq:i=q
   ·subst hq
    simp [hi]
   ·have:(i==q)=false:=by simpa using hq
    simp [this]
theorem get_del(bs:Bs)(id q:Nat) :(bs.del id).get q=if q=id then none else bs.get q:=by
 induction bs with
 | nil=>simp [Bs.del,Bs.get]
 | cons x l ih=>
  obtain ⟨i,c⟩:=x
  simp only [Bs.del]
  by_cases hi:i=id
  ·subst hi
   simp only [BEq.rfl,cond_true,ih,Bs.get]
   by_cases hq:q=i
   ·subst hq; simp
   ·have:(i==q)=false:=by simpa using fun h=>hq h.symm
    simp [this,hq]
  ·have h1:(i==id)=false:=by simpa using hi
   simp only [h1,cond_false,Bs.get,ih]
   by_cases hq:i=q
   ·subst hq
    simp [hi]
   ·have:(i==q)=false:=by simpa using hq
    simp [this]
theorem get_cons(id:Nat)(b:Blk)(bs:Bs)(q:Nat) :Bs.get ((id,b)::bs) q=if q=id then some b else bs.get q:=by
 simp only [Bs.get]
 by_cases hq:q=id
 ·subst hq; simp
 ·have:(id==q)=false:=by simpa using fun h=>hq h.symm
  simp [this,hq]
theorem mint_some{R:Type}{st:St}{id:Nat}{b:Blk}{K:St→Option R}{r:R}(h:st.mint id b K=some r) :500≤id∧id∉st.used∧K ⟨(id,b)::st.blks,id::st.used⟩=some r:=by
 unfold St.mint at h
 obtain ⟨h1,h2⟩:=needC_some h
 simp only [Bool.and_eq_true,Bool.not_eq_true',List.contains_eq_mem,decide_eq_false_iff_not] at h1
 exact ⟨Nat.le_of_ble_eq_true h1.1,h1.2,h2⟩
end
end Go.Proofs.Ytpfploolkmcalaa.VM
end
section
namespace Go.Proofs.Ytpfploolkmcalaa.VM
open Go AM
set_option linter.unusedSectionVars false
set_option linter.unusedSimpArgs false
set_option linter.unusedVariables false
section
variable {F F' N:NS} {G G':GM} {st st':St} {h h':Hp}
theorem Cells.mono{z z':Fz}(hz:Fz.le z z'){sz:Nat}{l:List T}{cs:List Value}(hc:Cells z sz l cs) :Cells z' sz l cs:=
 ⟨hc.len,hc.each,fun i x j y h1 h2=>let ⟨v,a,b⟩:=hc.at_ i x j y h1 h2; ⟨v,a,b.mono hz⟩⟩
theorem TR.mono{z z':Fz}(hz:Fz.le z z'){x:T}{v:Value} :TR z x v→TR z' x v
 | .one h=> .one (h.mono hz)
 | .agg h=> .agg (h.imp fun _ _ h=>h.mono hz)
theorem BR.keep{r:Nat}{b:Blk}(hb:BR F N G h r b)(he:real b=true→h'.new r=h.new r∧h'.maps r=h.maps r)(x:Ext F N h h')(hs:Sub F F')(hg:LeG G G') :BR F' N G' h' r b:=by
 have hz:Fz.le (fz F h) (fz F' h'):=x.fz hs
 cases b with
 | arr own sz nn l=>
  rcases hb with hb | ⟨h1,c,h2,h3,h4,h5,h6⟩
  ·exact .inl hb
  ·exact .inr ⟨h1,c,((he (by simpa [real] using h1)).1).trans h2,h3,h4.mono hz,h5,fun ho=>hs _ (h6 ho)⟩
 | var cs=>
  obtain ⟨c,h2,h3,h4,h5⟩:=hb
  exact ⟨c,((he rfl).1).trans h2,h3,h4,h5.imp fun _ _ hv=>hv.mono hz hg⟩
 | av l=>
  obtain ⟨c,h2,h3,h4,h5⟩:=hb
  exact ⟨c,((he rfl).1).trans h2,h3,h4,h5.imp fun _ _ hv=>hv.mono hz⟩
 | map es=>
  obtain ⟨es',h2,h3⟩:=hb
  exact ⟨es',((he rfl).2).trans h2,h3.imp fun _ _ hv=>⟨hv.1,hv.2.mono hz⟩⟩
 | rows sz l=>exact hb
theorem BR.lt{r:Nat}{b:Blk}(ok:HpOk h)(hb:BR F N G h r b)(hr:real b=true) :h.base≤r∧r<h.next:=by
 cases b with
 | arr own sz nn l=>
  rcases hb with ⟨hb,_⟩ | ⟨h1,c,h2,_⟩
  ·subst hb; cases hr
  ·exact ok.new _ _ h2
 | var cs=>obtain ⟨c,h2,_⟩:=hb; exact ok.new _ _ h2
 | av l=>obtain ⟨c,h2,_⟩:=hb; exact ok.new _ _ h2
 | map es=>obtain ⟨c,h2,_⟩:=hb; exact ok.maps _ _ h2
 | rows sz l=>cases hr
theorem real_rows{b:Blk}(h:real b=true) :isRows b=false:=by
 cases b <;>simp_all [isRows,real]
theorem wr_real{b:Blk}(h:wr b=true) :real b=true:=by
 cases b <;>simp_all [wr,real]
theorem Sm.lt(s:Sm F N G st h){id r:Nat}{b:Blk}{k:Gk}(hg:st.blks.get id=some b)(hr:real b=true)(hG:G id=some ⟨r,k⟩) :h.base≤r∧r<h.next:=by
 obtain ⟨r',h1,h2⟩:=s.blk id b hg
 rw [hG] at h1
 cases h1
 exact h2.lt s.ok hr
theorem Sm.br(s:Sm F N G st h){id r:Nat}{b:Blk}{k:Gk}(hg:st.blks.get id=some b)(hG:G id=some ⟨r,k⟩) :k=kindOf b∧BR F N G h r b:=by
 obtain ⟨r',h1,h2⟩:=s.blk id b hg
 rw [hG] at h1
 cases h1
 exact ⟨rfl,h2⟩
def setG(G:GM)(id:Nat)(g:Gh) :GM:=fun q=>if q=id then some g else G q
theorem setG_self(G:GM)(id:Nat)(g:Gh) :setG G id g id=some g:=if_pos rfl
theorem Sm.fresh(s:Sm F N G st h){id:Nat}(h1:500≤id)(h2:id∉st.used) :G id=none:=by
 cases hg:G id with
 | none=>rfl
 | some g=>rcases s.gUsed id g hg with h | h <;>first | omega | exact absurd h h2
theorem setG_le(s:Sm F N G st h){id:Nat}(h1:500≤id)(h2:id∉st.used)(g:Gh) :LeG G (setG G id g):=fun q k hq=>by
 unfold setG
 split
 ·rename_i e
  subst e
  rw [s.fresh h1 h2] at hq
  cases hq
 ·exact hq
theorem Sm.not_in(s:Sm F N G st h){id:Nat}(h1:500≤id)(h2:id∉st.used) :st.blks.get id=none:=by
 cases hg:st.blks.get id with
 | none=>rfl
 | some b=>
  obtain ⟨r,hr,_⟩:=s.blk id b hg
  rw [s.fresh h1 h2] at hr
  cases hr
theorem step_new(s:Sm F N G st h){id:Nat}{b:Blk}(h1:500≤id)(h2:id∉st.used)(ok':HpOk h')(x:Ext F N h h')(hsame:∀r,r<h.next→h'.new r=h.new r∧h'.maps r=h.maps r)(hnp:∀c,h'.new h.next=some c→c.par=[])
  (hlow:h'.low=h.low) (hn:h'.next=h.next+1) (hb:BR F N G h' h.next b) (hre:real b=true):
  Step F N G st h F (setG G id ⟨h.next,kindOf b⟩) ⟨(id,b)::st.blks,id::st.used⟩ h':=by
 have hle:=setG_le s h1 h2 ⟨h.next,kindOf b⟩
 have hG:∀q g,setG G id ⟨h.next,kindOf b⟩ q=some g→(q=id∧g=⟨h.next,kindOf b⟩)∨(q ≠id∧G q=some g):=by
  intro q g hq
  unfold setG at hq
  split at hq
  ·rename_i e; cases hq; exact .inl ⟨e,rfl⟩
  ·rename_i e; exact .inr ⟨e,hq⟩
 have hget:∀q c,Bs.get ((id,b)::st.blks) q=some c→(q=id∧c=b)∨(q ≠id∧st.blks.get q=some c):=by
  intro q c hq
  rw [get_cons] at hq
  split at hq
  ·rename_i e; cases hq; exact .inl ⟨e,rfl⟩
  ·rename_i e; exact .inr ⟨e,hq⟩
 refine ⟨⟨ok', ?_, ?_, ?_, ?_, ?_⟩,fun _ h=>h,hle,x, ?_, ?_, ?_,fun _ h=> .inl h, ?_⟩
 ·intro r hr; have:=s.fLt r hr; omega
 ·intro q c hq
  rcases hget q c hq with ⟨rfl,rfl⟩ | ⟨hne,hq⟩
  ·exact ⟨h.next,setG_self _ _ _,hb.keep (fun _=>⟨rfl,rfl⟩) (Ext.refl _ _ _) (fun _ h=>h) hle⟩
  ·obtain ⟨r,hr,hbr⟩:=s.blk q c hq
   exact ⟨r,hle _ _ hr,hbr.keep (fun hre=>hsame r (hbr.lt s.ok hre).2) x (fun _ h=>h) hle⟩
 ·intro id1 b1 id2 b2 r k1 k2 g1 g2 r1 r2 e1 e2
  rcases hget _ _ g1 with ⟨m1,_⟩ | ⟨m1,q1⟩ <;>rcases hget _ _ g2 with ⟨m2,_⟩ | ⟨m2,q2⟩
  ·exact m1.trans m2.symm
  ·rcases hG _ _ e1 with ⟨_,f1⟩ | ⟨hne,_⟩
   ·cases f1
    rcases hG _ _ e2 with ⟨f2,_⟩ | ⟨_,f2⟩
    ·exact absurd f2 m2
    ·have:=(s.lt q2 r2 f2).2; omega
   ·exact absurd m1 hne
  ·rcases hG _ _ e2 with ⟨_,f2⟩ | ⟨hne,_⟩
   ·cases f2
    rcases hG _ _ e1 with ⟨f1,_⟩ | ⟨_,f1⟩
    ·exact absurd f1 m1
    ·have:=(s.lt q1 r1 f1).2; omega
   ·exact absurd m2 hne
  ·rcases hG _ _ e1 with ⟨f1,_⟩ | ⟨_,f1⟩
   ·exact absurd f1 m1
   ·rcases hG _ _ e2 with ⟨f2,_⟩ | ⟨_,f2⟩
    ·exact absurd f2 m2
    ·exact s.inj _ _ _ _ _ _ _ q1 q2 r1 r2 f1 f2
 ·intro q c r k hq hw hGq
  rcases hget _ _ hq with ⟨rfl,rfl⟩ | ⟨n1,hq⟩
  ·rcases hG _ _ hGq with ⟨_,e⟩ | ⟨hne,_⟩
   ·cases e
    refine ⟨fun hf=> ?_,fun hf=> ?_,fun c hc p hp=> ?_⟩
    ·have:=s.fLt _ (.inl hf); omega
    ·have:=s.fLt _ (.inr hf); omega
    ·rw [hnp c hc] at hp; cases hp
   ·exact absurd rfl hne
  ·rcases hG _ _ hGq with ⟨rfl,_⟩ | ⟨_,e⟩
   ·exact absurd rfl n1
   ·have hlt:=(s.lt hq (wr_real hw) e).2
    obtain ⟨a1,a2,a3⟩:=s.apart q c r k hq hw e
    refine ⟨a1,a2,fun d hd p hp=> ?_⟩
    rw [(hsame r hlt).1] at hd
    obtain ⟨b0,b1,b2,b3⟩:=a3 d hd p hp
    refine ⟨b0,b1,b2,fun id2 c2 k2 g2 r2 e2=> ?_⟩
    rcases hget _ _ g2 with ⟨rfl,rfl⟩ | ⟨n2,g2⟩
    ·rcases hG _ _ e2 with ⟨_,e2⟩ | ⟨hne,_⟩
     ·cases e2
      omega
     ·exact absurd rfl hne
    ·rcases hG _ _ e2 with ⟨rfl,_⟩ | ⟨_,e2⟩
     ·exact absurd rfl n2
     ·exact b3 id2 c2 k2 g2 r2 e2
 ·intro q g hq
  rcases hG _ _ hq with ⟨rfl,_⟩ | ⟨_,hq⟩
  ·exact .inr (List.mem_cons_self ..)
  ·exact (s.gUsed q g hq).imp (fun h=>h) (List.mem_cons_of_mem _)
 ·intro L hL
  refine ⟨hlow▸hL.low,by have:=hL.next; omega,fun q c r k hq hw hGq=> ?_⟩
  rcases hget _ _ hq with ⟨rfl,rfl⟩ | ⟨n1,hq⟩
  ·rcases hG _ _ hGq with ⟨_,e⟩ | ⟨hne,_⟩
   ·cases e
    exact ⟨hL.next,fun c hc p hp=>by rw [hnp c hc] at hp; cases hp⟩
   ·exact absurd rfl hne
  ·rcases hG _ _ hGq with ⟨rfl,_⟩ | ⟨_,e⟩
   ·exact absurd rfl n1
   ·have hlt:=(s.lt hq (wr_real hw) e).2
    obtain ⟨a1,a2⟩:=hL.blk q c r k hq hw e
    exact ⟨a1,fun d hd=>a2 d (by rw [←(hsame r hlt).1]; exact hd)⟩
 ·intro q c r k hq hre hGq
  rcases hget _ _ hq with ⟨rfl,rfl⟩ | ⟨n1,hq⟩
  ·rcases hG _ _ hGq with ⟨_,e⟩ | ⟨hne,_⟩
   ·cases e; exact .inl (Nat.le_refl _)
   ·exact absurd rfl hne
  ·rcases hG _ _ hGq with ⟨rfl,_⟩ | ⟨_,e⟩
   ·exact absurd rfl n1
   ·exact .inr ⟨q,c,k,hq,hre,e⟩
 ·intro q c hq hlt
  rcases hget _ _ hq with ⟨rfl,rfl⟩ | ⟨_,hq⟩
  ·omega
  ·exact ⟨c,hq⟩
 ·intro q c hq hrw
  rcases hget q c hq with ⟨_,rfl⟩ | ⟨_,hq⟩
  ·rw [real_rows hre] at hrw; cases hrw
  ·exact hq
theorem Step.same (s : Sm F N G st h) {G' : GM} {st' : St} (hg : LeG G G') (hb : ∀ id b, st'.blks.get id = some b → (∃ r, G' id = some ⟨r, kindOf b⟩ ∧ BR F N G' h r b) ∧
      (real b=true→∃id0 b0,st.blks.get id0=some b0∧real b0=true∧(wr b=true→wr b0=true)∧(∀r k,G' id=some ⟨r,k⟩→∃k0,G id0=some ⟨r,k0⟩)))
    (hi:∀id1 b1 id2 b2 r k1 k2,st'.blks.get id1=some b1→st'.blks.get id2=some b2→real b1=true→real b2=true→G' id1=some ⟨r,k1⟩→G' id2=some ⟨r,k2⟩→id1=id2)
    (hu:∀id g,G' id=some g→id<500∨id∈st'.used) (hids:∀id b,st'.blks.get id=some b→id<500→∃b0,st.blks.get id=some b0) (hrw:∀id b,st'.blks.get id=some b→isRows b=true→st.blks.get id=some b):
    Step F N G st h F G' st' h:=by
  refine ⟨⟨s.ok,s.fLt,fun id b h1=>(hb id b h1).1,hi, ?_,hu⟩,fun _ h=>h,hg,Ext.refl _ _ _, ?_, ?_,hids,fun _ h=> .inl h,hrw⟩
  · intro id b r k h1 h2 h3
    obtain ⟨id0,b0,e1,e2,e3,e4⟩:=(hb id b h1).2 (wr_real h2)
    obtain ⟨k0,e5⟩:=e4 r k h3
    obtain ⟨a1,a2,a3⟩:=s.apart id0 b0 r k0 e1 (e3 h2) e5
    refine ⟨a1,a2,fun c hc q hq=> ?_⟩
    obtain ⟨c0,c1,c2,c3⟩:=a3 c hc q hq
    refine ⟨c0,c1,c2,fun id2 b2 k2 g1 g2 g3=> ?_⟩
    obtain ⟨id3,b3,f1,f2,f3,f4⟩:=(hb id2 b2 g1).2 g2
    obtain ⟨k3,f5⟩:=f4 q k2 g3
    exact c3 id3 b3 k3 f1 f2 f5
  · intro L hL
    refine ⟨hL.low,hL.next,fun id b r k h1 h2 h3=> ?_⟩
    obtain ⟨id0,b0,e1,e2,e3,e4⟩:=(hb id b h1).2 (wr_real h2)
    obtain ⟨k0,e5⟩:=e4 r k h3
    exact hL.blk id0 b0 r k0 e1 (e3 h2) e5
  · intro id b r k h1 h2 h3
    obtain ⟨id0,b0,e1,e2,e3,e4⟩:=(hb id b h1).2 h2
    obtain ⟨k0,e5⟩:=e4 r k h3
    exact .inr ⟨id0,b0,k0,e1,e2,e5⟩
theorem step_nil(s:Sm F N G st h){id:Nat}(sz:Nat)(h1:500≤id)(h2:id∉st.used) :
  Step F N G st h F (setG G id ⟨0, .arr sz false 0⟩) ⟨(id, .arr true sz false [])::st.blks,id::st.used⟩ h:=by
 have hle:=setG_le s h1 h2 ⟨0, .arr sz false 0⟩
 have hne:∀q b,st.blks.get q=some b→q ≠id:=fun q b hq e=>by
  subst e
  rw [s.not_in h1 h2] at hq
  cases hq
 have hget:∀q c,Bs.get ((id, .arr true sz false [])::st.blks) q=some c→(q=id∧c= .arr true sz false [])∨(q ≠id∧st.blks.get q=some c):=by
  intro q c hq
  rw [get_cons] at hq
  split at hq
  ·rename_i e; cases hq; exact .inl ⟨e,rfl⟩
  ·rename_i e; exact .inr ⟨e,hq⟩
 have hold:∀q k,q ≠id→setG G id ⟨0, .arr sz false 0⟩ q=some k→G q=some k:=fun q k hq he=>by
  unfold setG at he
  rw [if_neg hq] at he
  exact he
 refine Step.same s hle ?_ ?_ ?_ ?_ (fun q b hq hrw=>by
  rcases hget q b hq with ⟨_,rfl⟩ | ⟨_,hq⟩
  ·cases hrw
  ·exact hq)
 ·intro q b hq
  rcases hget q b hq with ⟨rfl,rfl⟩ | ⟨n1,hq⟩
  ·exact ⟨⟨0,setG_self _ _ _, .inl ⟨rfl,rfl⟩⟩,fun hre=>by cases hre⟩
  ·obtain ⟨r,hr,hbr⟩:=s.blk q b hq
   exact ⟨⟨r,hle _ _ hr,hbr.keep (fun _=>⟨rfl,rfl⟩) (Ext.refl _ _ _) (fun _ h=>h) hle⟩,fun hre=>⟨q,b,hq,hre,fun h=>h,fun r k hk=>⟨k,hold _ _ n1 hk⟩⟩⟩
 ·intro id1 b1 id2 b2 r k1 k2 g1 g2 r1 r2 e1 e2
  rcases hget _ _ g1 with ⟨_,m1⟩ | ⟨m1,q1⟩
  ·rw [m1] at r1; cases r1
  ·rcases hget _ _ g2 with ⟨_,m2⟩ | ⟨m2,q2⟩
   ·rw [m2] at r2; cases r2
   ·exact s.inj _ _ _ _ _ _ _ q1 q2 r1 r2 (hold _ _ m1 e1) (hold _ _ m2 e2)
 ·intro q g hq
  by_cases e:q=id
  ·subst e; exact .inr (List.mem_cons_self ..)
  ·exact (s.gUsed q g (hold _ _ e hq)).imp (fun h=>h) (List.mem_cons_of_mem _)
 ·intro q b hq hlt
  rcases hget q b hq with ⟨rfl,_⟩ | ⟨_,hq⟩
  ·omega
  ·exact ⟨b,hq⟩
theorem step_del(s:Sm F N G st h)(id:Nat) :Step F N G st h F G ⟨st.blks.del id,st.used⟩ h:=by
 have hget:∀q c,(st.blks.del id).get q=some c→q ≠id∧st.blks.get q=some c:=by
  intro q c hq
  rw [get_del] at hq
  split at hq
  ·cases hq
  ·rename_i e; exact ⟨e,hq⟩
 refine Step.same s (LeG.refl _) ?_ ?_ s.gUsed ?_ (fun q b hq _=>(hget q b hq).2)
 ·intro q b hq
  obtain ⟨_,hq⟩:=hget q b hq
  exact ⟨s.blk q b hq,fun hre=>⟨q,b,hq,hre,fun h=>h,fun r k hk=>⟨k,hk⟩⟩⟩
 ·intro id1 b1 id2 b2 r k1 k2 g1 g2
  exact s.inj _ _ _ _ _ _ _ (hget _ _ g1).2 (hget _ _ g2).2
 ·intro q b hq _
  exact ⟨b,(hget q b hq).2⟩
theorem step_name(s:Sm F N G st h){id id' sz:Nat}{l:List T}{r:Nat}{k:Gk}(hg:st.blks.get id=some (.arr true sz true l))(hG:G id=some ⟨r,k⟩)(h1:500≤id')(h2:id'∉st.used) :
  Step F N G st h F (setG G id' ⟨r, .arr sz true l.length⟩) ⟨(id', .arr true sz true l)::st.blks.del id,id'::st.used⟩ h:=by
 have hle:=setG_le s h1 h2 ⟨r, .arr sz true l.length⟩
 have hget:∀q c,Bs.get ((id', .arr true sz true l)::st.blks.del id) q=some c→(q=id'∧c= .arr true sz true l)∨(q ≠id'∧q ≠id∧st.blks.get q=some c):=by
  intro q c hq
  rw [get_cons] at hq
  split at hq
  ·rename_i e; cases hq; exact .inl ⟨e,rfl⟩
  ·rename_i e
   rw [get_del] at hq
   split at hq
   ·cases hq
   ·rename_i e2; exact .inr ⟨e,e2,hq⟩
 have hold:∀q k,q ≠id'→setG G id' ⟨r, .arr sz true l.length⟩ q=some k→G q=some k:=fun q k hq he=>by
  unfold setG at he
  rw [if_neg hq] at he
  exact he
 refine Step.same s hle ?_ ?_ ?_ ?_ (fun q b hq hrw=>by
  rcases hget q b hq with ⟨_,rfl⟩ | ⟨_,_,hq⟩
  ·cases hrw
  ·exact hq)
 ·intro q b hq
  rcases hget q b hq with ⟨rfl,rfl⟩ | ⟨n1,n2,hq⟩
  ·refine ⟨⟨r,setG_self _ _ _,(s.br hg hG).2.keep (fun _=>⟨rfl,rfl⟩) (Ext.refl _ _ _) (fun _ h=>h) hle⟩,fun hre=>⟨id,_,hg,rfl,fun _=>rfl,fun r' k' hk=> ?_⟩⟩
   rw [setG_self] at hk
   cases hk
   exact ⟨k,hG⟩
  ·obtain ⟨r,hr,hbr⟩:=s.blk q b hq
   exact ⟨⟨r,hle _ _ hr,hbr.keep (fun _=>⟨rfl,rfl⟩) (Ext.refl _ _ _) (fun _ h=>h) hle⟩,fun hre=>⟨q,b,hq,hre,fun h=>h,fun r k hk=>⟨k,hold _ _ n1 hk⟩⟩⟩
 ·intro id1 b1 id2 b2 r' k1 k2 g1 g2 r1 r2 e1 e2
  rcases hget _ _ g1 with ⟨m1,p1⟩ | ⟨m1,m1',q1⟩ <;>rcases hget _ _ g2 with ⟨m2,p2⟩ | ⟨m2,m2',q2⟩
  ·exact m1.trans m2.symm
  ·rw [m1,setG_self] at e1
   cases e1
   exact absurd (s.inj _ _ _ _ _ _ _ q2 hg r2 rfl (hold _ _ m2 e2) hG) m2'
  ·rw [m2,setG_self] at e2
   cases e2
   exact absurd (s.inj _ _ _ _ _ _ _ q1 hg r1 rfl (hold _ _ m1 e1) hG) m1'
  ·exact s.inj _ _ _ _ _ _ _ q1 q2 r1 r2 (hold _ _ m1 e1) (hold _ _ m2 e2)
 ·intro q g hq
  by_cases e:q=id'
  ·subst e; exact .inr (List.mem_cons_self ..)
  ·exact (s.gUsed q g (hold _ _ e hq)).imp (fun h=>h) (List.mem_cons_of_mem _)
 ·intro q b hq hlt
  rcases hget q b hq with ⟨rfl,_⟩ | ⟨_,_,hq⟩
  ·omega
  ·exact ⟨b,hq⟩
theorem step_upd(s:Sm F N G st h){id:Nat}{b b':Blk}{r:Nat}{k:Gk}(hg:st.blks.get id=some b)(hw:wr b=true)(hG:G id=some ⟨r,k⟩)(hk:kindOf b'=kindOf b)(hre:real b'=true)
  (ok':HpOk h') (x:Ext F N h h') (hn:h'.next=h.next) (hsame:∀id2 b2 r2 k2,id2 ≠id→st.blks.get id2=some b2→real b2=true→G id2=some ⟨r2,k2⟩→h'.new r2=h.new r2∧h'.maps r2=h.maps r2)
  (hpar:∀c',h'.new r=some c'→∀q∈c'.par,∃c,h.new r=some c∧q∈c.par) (hlow:∀L,L≤h.low→L≤r→(∀c,h.new r=some c→∀q∈c.par,L≤q)→L≤h'.low) (hb:BR F N G h' r b'):
  Step F N G st h F G ⟨st.blks.set id b',st.used⟩ h':=by
 have hget:∀q c,(st.blks.set id b').get q=some c→(q=id∧c=b')∨(q ≠id∧st.blks.get q=some c):=by
  intro q c hq
  rw [get_set] at hq
  split at hq
  ·rename_i e
   rw [hg] at hq
   cases hq
   exact .inl ⟨e,rfl⟩
  ·rename_i e; exact .inr ⟨e,hq⟩
 have hold:∀q c,(st.blks.set id b').get q=some c→∃c0,st.blks.get q=some c0∧(real c=true→real c0=true)∧(wr c=true→wr c0=true):=by
  intro q c hq
  rcases hget q c hq with ⟨rfl,rfl⟩ | ⟨_,hq⟩
  ·exact ⟨b,hg,fun _=>wr_real hw,fun _=>hw⟩
  ·exact ⟨c,hq,fun h=>h,fun h=>h⟩
 refine ⟨⟨ok', ?_, ?_, ?_, ?_,s.gUsed⟩,fun _ h=>h,LeG.refl _,x, ?_, ?_, ?_,fun _ h=> .inl h,fun q c hq hrw=>by
  rcases hget q c hq with ⟨_,rfl⟩ | ⟨_,hq⟩
  ·rw [real_rows hre] at hrw; cases hrw
  ·exact hq⟩
 ·intro r hr; have:=s.fLt r hr; omega
 ·intro q c hq
  rcases hget q c hq with ⟨rfl,rfl⟩ | ⟨hne,hq⟩
  ·have:=(s.br hg hG).1
   exact ⟨r,by rw [hG,this,hk],hb⟩
  ·obtain ⟨r2,h2,hbr⟩:=s.blk q c hq
   exact ⟨r2,h2,hbr.keep (fun hre=>hsame q c r2 _ hne hq hre h2) x (fun _ h=>h) (LeG.refl _)⟩
 ·intro id1 b1 id2 b2 r' k1 k2 g1 g2 r1 r2 e1 e2
  obtain ⟨c1,a1,a2,_⟩:=hold _ _ g1
  obtain ⟨c2,d1,d2,_⟩:=hold _ _ g2
  exact s.inj _ _ _ _ _ _ _ a1 d1 (a2 r1) (d2 r2) e1 e2
 ·intro q c r' k' hq hwc hGq
  obtain ⟨c0,a1,a2,a3⟩:=hold _ _ hq
  obtain ⟨b1,b2,b3⟩:=s.apart q c0 r' k' a1 (a3 hwc) hGq
  refine ⟨b1,b2,fun d hd p hp=> ?_⟩
  obtain ⟨d0,e1,e2⟩:∃d0,h.new r'=some d0∧p∈d0.par:=by
   rcases hget q c hq with ⟨rfl,_⟩ | ⟨hne,hq'⟩
   ·rw [hG] at hGq
    cases hGq
    exact hpar d hd p hp
   ·rw [(hsame q c r' k' hne hq' (wr_real hwc) hGq).1] at hd
    exact ⟨d,hd,hp⟩
  obtain ⟨f1,f2,f3,f4⟩:=b3 d0 e1 p e2
  refine ⟨f1,f2,f3,fun id2 c2 k2 g2 r2 e2=> ?_⟩
  obtain ⟨c3,i1,i2,_⟩:=hold _ _ g2
  exact f4 id2 c3 k2 i1 (i2 r2) e2
 ·intro L hL
  have hL0:=hL.blk id b r k hg hw hG
  refine ⟨hlow L hL.low hL0.1 hL0.2,by rw [hn]; exact hL.next,fun q c r' k' hq hwc hGq=> ?_⟩
  obtain ⟨c0,a1,a2,a3⟩:=hold _ _ hq
  obtain ⟨b1,b2⟩:=hL.blk q c0 r' k' a1 (a3 hwc) hGq
  refine ⟨b1,fun d hd p hp=> ?_⟩
  rcases hget q c hq with ⟨rfl,_⟩ | ⟨hne,hq'⟩
  ·rw [hG] at hGq
   cases hGq
   obtain ⟨d0,e1,e2⟩:=hpar d hd p hp
   exact b2 d0 e1 p e2
  ·rw [(hsame q c r' k' hne hq' (wr_real hwc) hGq).1] at hd
   exact b2 d hd p hp
 ·intro q c r' k' hq hrc hGq
  obtain ⟨c0,a1,a2,_⟩:=hold _ _ hq
  exact .inr ⟨q,c0,k',a1,a2 hrc,hGq⟩
 ·intro q c hq _
  obtain ⟨c0,a1,_⟩:=hold _ _ hq
  exact ⟨c0,a1⟩
theorem ext_write(s:Sm F N G st h){id:Nat}{b:Blk}{r:Nat}{k:Gk}(hg:st.blks.get id=some b)(hw:wr b=true)(hG:G id=some ⟨r,k⟩){c:AM.Blk}(hc:h.new r=some c)(o:Nat)(vs:List Value) :Ext F N h (h.write r c o vs):=by
 obtain ⟨a1,a2,a3⟩:=s.apart id b r k hg hw hG
 refine ⟨rfl,rfl,Nat.le_refl _,fun q hq=>⟨?_,rfl⟩,fun q hq=> ?_⟩
 ·rw [write_new,if_neg (fun e=>by subst e; exact hq.elim a1 a2),if_neg (fun hm=> ?_)]
  obtain ⟨_,b1,b2,_⟩:=a3 c hc q (by simpa using hm)
  exact hq.elim b1 b2
 ·have hlt:=(s.ok.new _ _ hc).1
  rw [write_new,if_neg (by omega)]
  split
  ·cases hq2:h.new q with
   | none=>rfl
   | some d=>have:=(s.ok.new _ _ hq2).1; omega
  ·rfl
theorem step_write(s:Sm F N G st h){id:Nat}{b b':Blk}{r:Nat}{k:Gk}(hg:st.blks.get id=some b)(hw:wr b=true)(hG:G id=some ⟨r,k⟩)(hk:kindOf b'=kindOf b)(hre:real b'=true){c:AM.Blk}(hc:h.new r=some c)(o:Nat)(vs:List Value)
  (hb:(h.write r c o vs).new r=some {c with cells:=splice c.cells o vs,par:=[]}→Fz.le (fz F h) (fz F (h.write r c o vs))→BR F N G (h.write r c o vs) r b'):
  Step F N G st h F G ⟨st.blks.set id b',st.used⟩ (h.write r c o vs):=by
 have x:=ext_write s hg hw hG hc o vs
 obtain ⟨a1,a2,a3⟩:=s.apart id b r k hg hw hG
 have hself:(h.write r c o vs).new r=some {c with cells:=splice c.cells o vs,par:=[]}:=by rw [write_new,if_pos rfl]
 refine step_upd s hg hw hG hk hre (ok_write s.ok hc o vs) x rfl ?_ ?_ ?_ (hb hself (x.fz fun _ h=>h))
 ·intro id2 b2 r2 k2 hne g2 re2 e2
  refine ⟨?_,rfl⟩
  rw [write_new,if_neg (fun e=>by subst e; exact hne (s.inj _ _ _ _ _ _ _ g2 hg re2 (wr_real hw) e2 hG)),if_neg (fun hm=> ?_)]
  obtain ⟨_,_,_,b3⟩:=a3 c hc r2 (by simpa using hm)
  exact b3 id2 b2 k2 g2 re2 e2
 ·intro c' h' q hq
  rw [hself] at h'
  cases h'
  cases hq
 ·intro L h1 h2 h3
  have:=fold_min_ge c.par r h2 (h3 c hc)
  show L≤min h.low _
  omega
theorem step_putMap(s:Sm F N G st h){id:Nat}{es0 es:List (T×T)}{r:Nat}{k:Gk}(hg:st.blks.get id=some (.map es0))(hG:G id=some ⟨r,k⟩){es':List (Value×Value)}(hb:All2 (fun (x:T×T) (y:Value×Value)=>keyR x.1 y.1∧TR (fz F h) x.2 y.2) es es') :
  Step F N G st h F G ⟨st.blks.set id (.map es),st.used⟩ (h.putMap r es'):=by
 obtain ⟨a1,a2,a3⟩:=s.apart id _ r k hg rfl hG
 have hm:∀q,q ≠r→(h.putMap r es').maps q=h.maps q:=fun q hq=>by
  unfold Hp.putMap
  have:(q==r)=false:=by simpa using hq
  simp [this]
 have hmr:(h.putMap r es').maps r=some es':=by unfold Hp.putMap; simp
 obtain ⟨_,esr,hr1,hr2⟩:=s.br hg hG
 have x:Ext F N h (h.putMap r es'):=⟨rfl,rfl,Nat.le_refl _,fun q hq=>⟨rfl,hm q (fun e=>by subst e; exact hq.elim a1 a2)⟩,fun _ _=>rfl⟩
 refine step_upd s hg rfl hG rfl rfl ⟨s.ok.new,fun q e hq=> ?_,s.ok.old,s.ok.next⟩ x rfl ?_ ?_ ?_ ?_
 ·by_cases e:q=r
  ·subst e; exact s.ok.maps _ _ hr1
  ·rw [hm q e] at hq; exact s.ok.maps _ _ hq
 ·intro id2 b2 r2 k2 hne g2 re2 e2
  exact ⟨rfl,hm r2 (fun e=>by subst e; exact hne (s.inj _ _ _ _ _ _ _ g2 hg re2 rfl e2 hG))⟩
 ·intro c' h' q hq; exact ⟨c',h',hq⟩
 ·intro L h1 h2 h3
  show L≤min h.low r
  omega
 ·exact ⟨es',hmr,hb.imp fun _ _ hv=>⟨hv.1,hv.2.mono (x.fz fun _ h=>h)⟩⟩
end
end Go.Proofs.Ytpfploolkmcalaa.VM
end
section
namespace Go.Proofs.Ytpfploolkmcalaa.VM
open Go AM
set_option linter.unusedSectionVars false
set_option linter.unusedSimpArgs false
set_option linter.unusedVariables false
section
variable {F F' N:NS} {G G':GM} {st st':St} {h h':Hp}
theorem step_grow(s:Sm F N G st h){id id' sz:Nat}{l l':List T}{r:Nat}{k:Gk}(hg:st.blks.get id=some (.arr true sz true l))(hG:G id=some ⟨r,k⟩){c:AM.Blk}(hc:h.new r=some c){cs:List Value}(hcs:Cells (fz F h) sz l' cs)(h1:500≤id')(h2:id'∉st.used) :
  Step F N G st h F (setG G id' ⟨h.next, .arr sz true l'.length⟩) ⟨(id', .arr true sz true l')::st.blks.del id,id'::st.used⟩ ((h.fence r).alloc cs sz (r::c.par)):=by
 have hle:=setG_le s h1 h2 ⟨h.next, .arr sz true l'.length⟩
 obtain ⟨p1,p2,p3⟩:=s.apart id _ r k hg rfl hG
 have hrl:=s.lt hg rfl hG
 have hnew:∀q,((h.fence r).alloc cs sz (r::c.par)).new q=if q=h.next then some ⟨cs,sz,true,r::c.par⟩ else if q=r then (h.new q).map (fun b=>{b with rw:=false}) else h.new q:=fun q=>by
  rw [alloc_new,seal_new]; rfl
 have x:Ext F N h ((h.fence r).alloc cs sz (r::c.par)):=by
  refine ⟨rfl,rfl,Nat.le_succ _,fun q hq=>⟨?_,rfl⟩,fun q hq=> ?_⟩
  ·have:=s.fLt q hq
   rw [hnew,if_neg (by omega),if_neg (fun e=>by subst e; exact hq.elim p1 p2)]
  ·have:=s.ok.next
   rw [hnew,if_neg (by omega),if_neg (by omega)]
 have hget:∀q b,Bs.get ((id', .arr true sz true l')::st.blks.del id) q=some b→(q=id'∧b= .arr true sz true l')∨(q ≠id'∧q ≠id∧st.blks.get q=some b):=by
  intro q b hq
  rw [get_cons] at hq
  split at hq
  ·rename_i e; cases hq; exact .inl ⟨e,rfl⟩
  ·rename_i e
   rw [get_del] at hq
   split at hq
   ·cases hq
   ·rename_i e2; exact .inr ⟨e,e2,hq⟩
 have hold:∀q g,q ≠id'→setG G id' ⟨h.next, .arr sz true l'.length⟩ q=some g→G q=some g:=fun q g hq he=>by
  unfold setG at he
  rw [if_neg hq] at he
  exact he
 have hsame:∀q b r2 k2,q ≠id→st.blks.get q=some b→real b=true→G q=some ⟨r2,k2⟩→((h.fence r).alloc cs sz (r::c.par)).new r2=h.new r2:=by
  intro q b r2 k2 hne hq hre hGq
  have:=(s.lt hq hre hGq).2
  rw [hnew,if_neg (by omega),if_neg (fun e=>by subst e; exact hne (s.inj _ _ _ _ _ _ _ hq hg hre rfl hGq hG))]
 refine ⟨⟨ok_alloc (ok_seal s.ok r) cs sz _, ?_, ?_, ?_, ?_, ?_⟩,fun _ h=>h,hle,x, ?_, ?_, ?_,fun _ h=> .inl h,fun q b hq hrw=>by
  rcases hget q b hq with ⟨_,rfl⟩ | ⟨_,_,hq⟩
  ·cases hrw
  ·exact hq⟩
 ·intro q hq; have:=s.fLt q hq; show q<h.next+1; omega
 ·intro q b hq
  rcases hget q b hq with ⟨rfl,rfl⟩ | ⟨n1,n2,hq⟩
  ·exact ⟨h.next,setG_self _ _ _, .inr ⟨rfl,_,by rw [hnew,if_pos rfl],rfl,hcs.mono (x.fz fun _ h=>h),fun _=>rfl,fun h=>by cases h⟩⟩
  ·obtain ⟨r2,hr2,hbr⟩:=s.blk q b hq
   exact ⟨r2,hle _ _ hr2,hbr.keep (fun hre=>⟨hsame q b r2 _ n2 hq hre hr2,rfl⟩) x (fun _ h=>h) hle⟩
 ·intro id1 b1 id2 b2 r' k1 k2 g1 g2 r1 r2 e1 e2
  rcases hget _ _ g1 with ⟨m1,_⟩ | ⟨m1,_,q1⟩ <;>rcases hget _ _ g2 with ⟨m2,_⟩ | ⟨m2,_,q2⟩
  ·exact m1.trans m2.symm
  ·rw [m1,setG_self] at e1
   cases e1
   have:=(s.lt q2 r2 (hold _ _ m2 e2)).2
   omega
  ·rw [m2,setG_self] at e2
   cases e2
   have:=(s.lt q1 r1 (hold _ _ m1 e1)).2
   omega
  ·exact s.inj _ _ _ _ _ _ _ q1 q2 r1 r2 (hold _ _ m1 e1) (hold _ _ m2 e2)
 ·intro q b r' k' hq hwb hGq
  rcases hget _ _ hq with ⟨m1,_⟩ | ⟨m1,m1',q1⟩
  ·rw [m1,setG_self] at hGq
   cases hGq
   refine ⟨fun hf=> ?_,fun hf=> ?_,fun d hd p hp=> ?_⟩
   ·have:=s.fLt _ (.inl hf); omega
   ·have:=s.fLt _ (.inr hf); omega
   ·rw [hnew,if_pos rfl] at hd
    cases hd
    have hp':p=r∨p∈c.par:=by simpa using hp
    have:p<h.next∧¬F p∧¬N p∧∀id2 b2 k2,st.blks.get id2=some b2→real b2=true→id2 ≠id→G id2 ≠some ⟨p,k2⟩:=by
     rcases hp' with rfl | hp'
     ·exact ⟨hrl.2,p1,p2,fun id2 b2 k2 g2 r2 hne e2=>hne (s.inj _ _ _ _ _ _ _ g2 hg r2 rfl e2 hG)⟩
     ·obtain ⟨d1,d2,d3,d4⟩:=p3 c hc p hp'
      exact ⟨by omega,d2,d3,fun id2 b2 k2 g2 r2 _ e2=>d4 id2 b2 k2 g2 r2 e2⟩
    obtain ⟨t1,t2,t3,t4⟩:=this
    refine ⟨t1,t2,t3,fun id2 b2 k2 g2 r2 e2=> ?_⟩
    rcases hget _ _ g2 with ⟨m2,_⟩ | ⟨m2,m2',q2⟩
    ·rw [m2,setG_self] at e2
     cases e2
     omega
    ·exact t4 id2 b2 k2 q2 r2 m2' (hold _ _ m2 e2)
  ·have e:=hold _ _ m1 hGq
   have hlt:=(s.lt q1 (wr_real hwb) e).2
   obtain ⟨a1,a2,a3⟩:=s.apart q b r' k' q1 hwb e
   refine ⟨a1,a2,fun d hd p hp=> ?_⟩
   rw [hsame q b r' k' m1' q1 (wr_real hwb) e] at hd
   obtain ⟨b0,b1,b2,b3⟩:=a3 d hd p hp
   refine ⟨b0,b1,b2,fun id2 c2 k2 g2 r2 e2=> ?_⟩
   rcases hget _ _ g2 with ⟨m2,_⟩ | ⟨m2,m2',q2⟩
   ·rw [m2,setG_self] at e2
    cases e2
    omega
   ·exact b3 id2 c2 k2 q2 r2 (hold _ _ m2 e2)
 ·intro q g hq
  by_cases e:q=id'
  ·subst e; exact .inr (List.mem_cons_self ..)
  ·exact (s.gUsed q g (hold _ _ e hq)).imp (fun h=>h) (List.mem_cons_of_mem _)
 ·intro L hL
  have hL0:=hL.blk id _ r k hg rfl hG
  refine ⟨hL.low,by have:=hL.next; show L≤h.next+1; omega,fun q b r' k' hq hwb hGq=> ?_⟩
  rcases hget _ _ hq with ⟨m1,_⟩ | ⟨m1,m1',q1⟩
  ·rw [m1,setG_self] at hGq
   cases hGq
   refine ⟨hL.next,fun d hd p hp=> ?_⟩
   rw [hnew,if_pos rfl] at hd
   cases hd
   rcases (by simpa using hp:p=r∨p∈c.par) with rfl | hp'
   ·exact hL0.1
   ·exact hL0.2 c hc p hp'
  ·have e:=hold _ _ m1 hGq
   obtain ⟨a1,a2⟩:=hL.blk q b r' k' q1 hwb e
   exact ⟨a1,fun d hd=>a2 d (by rw [←hsame q b r' k' m1' q1 (wr_real hwb) e]; exact hd)⟩
 ·intro q b r' k' hq hre hGq
  rcases hget _ _ hq with ⟨m1,_⟩ | ⟨m1,m1',q1⟩
  ·rw [m1,setG_self] at hGq
   cases hGq
   exact .inl (Nat.le_refl _)
  ·exact .inr ⟨q,b,k',q1,hre,hold _ _ m1 hGq⟩
 ·intro q b hq hlt
  rcases hget q b hq with ⟨rfl,_⟩ | ⟨_,_,hq⟩
  ·omega
  ·exact ⟨b,hq⟩
theorem step_off(s:Sm F N G st h){id:Nat}{b:Blk}(hg:st.blks.get id=some b) :∃F',Step F N G st h F' G ⟨st.blks.set id (ownOff b),st.used⟩ h:=by
 have hget:∀q c,(st.blks.set id (ownOff b)).get q=some c→(q=id∧c=ownOff b)∨(q ≠id∧st.blks.get q=some c):=by
  intro q c hq
  rw [get_set] at hq
  split at hq
  ·rename_i e
   rw [hg] at hq
   cases hq
   exact .inl ⟨e,rfl⟩
  ·rename_i e; exact .inr ⟨e,hq⟩
 have hkind:kindOf (ownOff b)=kindOf b:=by cases b <;>rfl
 have hreal:real (ownOff b)=real b:=by cases b <;>rfl
 by_cases hw:wr b=true∧∃sz l,b= .arr true sz true l
 ·obtain ⟨hw,sz,l,rfl⟩:=hw
  obtain ⟨r,hG,hbr⟩:=s.blk id _ hg
  obtain ⟨p1,p2,p3⟩:=s.apart id _ r _ hg rfl hG
  have hrl:=s.lt hg rfl hG
  have hold:∀q c,(st.blks.set id (ownOff (.arr true sz true l))).get q=some c→∃c0,st.blks.get q=some c0∧(real c=true→real c0=true)∧(wr c=true→wr c0=true∧q ≠id):=by
   intro q c hq
   rcases hget q c hq with ⟨rfl,rfl⟩ | ⟨hne,hq⟩
   ·exact ⟨_,hg,fun _=>rfl,fun h=>by cases h⟩
   ·exact ⟨c,hq,fun h=>h,fun h=>⟨h,hne⟩⟩
  have hsub:Sub F (fun q=>F q∨q=r):=fun q hq=> .inl hq
  refine ⟨fun q=>F q∨q=r,⟨s.ok, ?_, ?_, ?_, ?_,s.gUsed⟩,hsub,LeG.refl _,Ext.refl _ _ _, ?_, ?_, ?_,fun q hq=>hq.imp (fun h=>h) fun e=> .inr ⟨id,_,_,hg,rfl,e▸hG⟩,fun q c hq hrw=>by
   rcases hget q c hq with ⟨_,rfl⟩ | ⟨_,hq⟩
   ·cases hrw
   ·exact hq⟩
  ·rintro q ((hq | rfl) | hq)
   ·exact s.fLt q (.inl hq)
   ·exact hrl.2
   ·exact s.fLt q (.inr hq)
  ·intro q c hq
   rcases hget q c hq with ⟨rfl,rfl⟩ | ⟨hne,hq⟩
   ·refine ⟨r,hG, ?_⟩
    rcases hbr with ⟨h1,_⟩ | ⟨h1,d,h2,h3,h4,h5,h6⟩
    ·cases h1
    ·exact .inr ⟨rfl,d,h2,h3,h4.mono ((Ext.refl F N h).fz hsub),(fun h=>nomatch h),fun _=> .inr rfl⟩
   ·obtain ⟨r2,h2,hbr2⟩:=s.blk q c hq
    exact ⟨r2,h2,hbr2.keep (fun _=>⟨rfl,rfl⟩) (Ext.refl _ _ _) hsub (LeG.refl _)⟩
  ·intro id1 b1 id2 b2 r' k1 k2 g1 g2 r1 r2 e1 e2
   obtain ⟨c1,a1,a2,_⟩:=hold _ _ g1
   obtain ⟨c2,d1,d2,_⟩:=hold _ _ g2
   exact s.inj _ _ _ _ _ _ _ a1 d1 (a2 r1) (d2 r2) e1 e2
  ·intro q c r' k' hq hwc hGq
   obtain ⟨c0,a1,a2,a3⟩:=hold _ _ hq
   obtain ⟨a3,a4⟩:=a3 hwc
   obtain ⟨b1,b2,b3⟩:=s.apart q c0 r' k' a1 a3 hGq
   refine ⟨?_,b2,fun d hd p hp=> ?_⟩
   ·rintro (hf | rfl)
    ·exact b1 hf
    ·exact a4 (s.inj _ _ _ _ _ _ _ a1 hg (wr_real a3) rfl hGq hG)
   ·obtain ⟨f1,f2,f3,f4⟩:=b3 d hd p hp
    refine ⟨f1, ?_,f3,fun id2 c2 k2 g2 r2 e2=> ?_⟩
    ·rintro (hf | rfl)
     ·exact f2 hf
     ·exact f4 id _ _ hg rfl hG
    ·obtain ⟨c3,i1,i2,_⟩:=hold _ _ g2
     exact f4 id2 c3 k2 i1 (i2 r2) e2
  ·intro L hL
   refine ⟨hL.low,hL.next,fun q c r' k' hq hwc hGq=> ?_⟩
   obtain ⟨c0,a1,a2,a3⟩:=hold _ _ hq
   exact hL.blk q c0 r' k' a1 (a3 hwc).1 hGq
  ·intro q c r' k' hq hrc hGq
   obtain ⟨c0,a1,a2,_⟩:=hold _ _ hq
   exact .inr ⟨q,c0,k',a1,a2 hrc,hGq⟩
  ·intro q c hq _
   obtain ⟨c0,a1,_⟩:=hold _ _ hq
   exact ⟨c0,a1⟩
 ·have hwo:wr (ownOff b)=true→wr b=true:=by cases b <;>simp [ownOff,wr]
  have hbr':∀r,BR F N G h r b→BR F N G h r (ownOff b):=by
   intro r hb
   cases b with
   | arr own sz nn l=>
    cases own
    ·exact hb
    ·cases nn
     ·rcases hb with hb | ⟨h1,_⟩
      ·exact .inl hb
      ·cases h1
     ·exact absurd ⟨rfl,sz,l,rfl⟩ hw
   | var cs=>exact hb
   | av l=>exact hb
   | map es=>exact hb
   | rows sz l=>exact hb
  refine ⟨F,Step.same s (LeG.refl _) ?_ ?_ s.gUsed ?_ (fun q c hq hrw=>by
   rcases hget q c hq with ⟨rfl,rfl⟩ | ⟨_,hq⟩
   ·cases b with
    | rows sz l=>exact hg
    | _=>cases hrw
   ·exact hq)⟩
  ·intro q c hq
   rcases hget q c hq with ⟨rfl,rfl⟩ | ⟨hne,hq⟩
   ·obtain ⟨r,hG,hbr⟩:=s.blk q b hg
    exact ⟨⟨r,by rw [hkind]; exact hG,hbr' r hbr⟩,fun hre=>⟨q,b,hg,hreal▸hre,hwo,fun r k hk=>⟨k,hk⟩⟩⟩
   ·exact ⟨s.blk q c hq,fun hre=>⟨q,c,hq,hre,fun h=>h,fun r k hk=>⟨k,hk⟩⟩⟩
  ·have hold:∀q c,(st.blks.set id (ownOff b)).get q=some c→∃c0,st.blks.get q=some c0∧(real c=true→real c0=true):=by
    intro q c hq
    rcases hget q c hq with ⟨rfl,rfl⟩ | ⟨hne,hq⟩
    ·exact ⟨b,hg,fun h=>hreal▸h⟩
    ·exact ⟨c,hq,fun h=>h⟩
   intro id1 b1 id2 b2 r' k1 k2 g1 g2 r1 r2 e1 e2
   obtain ⟨c1,a1,a2⟩:=hold _ _ g1
   obtain ⟨c2,d1,d2⟩:=hold _ _ g2
   exact s.inj _ _ _ _ _ _ _ a1 d1 (a2 r1) (d2 r2) e1 e2
  ·intro q c hq _
   rcases hget q c hq with ⟨rfl,rfl⟩ | ⟨hne,hq⟩
   ·exact ⟨b,hg⟩
   ·exact ⟨c,hq⟩
theorem freeze_get :∀(ids:List Nat) (bs:Bs) (q:Nat),(bs.freeze ids).get q=(bs.get q).map fun b=>if q∈ids then ownOff b else b
 | [],bs,q=>by simp [Bs.freeze]
 | id::ids,bs,q=>by
  have hoo:∀b,ownOff (ownOff b)=ownOff b:=fun b=>by cases b <;>rfl
  unfold Bs.freeze
  cases hg:bs.get id with
  | none=>
   dsimp only
   rw [freeze_get ids bs q]
   by_cases e:q=id
   ·subst e; rw [hg]; rfl
   ·cases bs.get q <;>simp [e]
  | some b=>
   dsimp only
   rw [freeze_get ids _ q,get_set]
   by_cases e:q=id
   ·subst e
    rw [if_pos rfl,hg]
    simp only [Option.map_some,List.mem_cons,true_or,if_true]
    congr 1
    split
    ·exact hoo b
    ·rfl
   ·rw [if_neg e]
    simp [e]
theorem step_freeze :∀(ids:List Nat) {F:NS} {st:St},Sm F N G st h→∃F',Step F N G st h F' G ⟨st.blks.freeze ids,st.used⟩ h
 | [],F,st,s=>⟨F,Step.refl s⟩
 | id::ids,F,st,s=>by
  unfold Bs.freeze
  cases hg:st.blks.get id with
  | none=>exact step_freeze ids s
  | some b=>
   obtain ⟨F1,x1⟩:=step_off s hg
   obtain ⟨F2,x2⟩:=step_freeze ids x1.sm
   exact ⟨F2,x1.trans x2⟩
/-! ### trees -/
theorem add_none{r o j:Nat} :(Addr.mk r o none).add j=⟨r,o+j,none⟩:=by
 unfold Addr.add
 split
 ·subst j; rfl
 ·rfl
theorem vr_t{z:Fz}{x:T}{u:Value}(hv:VR z G (.t x) u) :TR z x u:=by
 cases hv with
 | t h=>exact .one h
 | tagg h=>exact .agg h
theorem tr_v{z:Fz}{x:T}{u:Value}(hv:TR z x u) :VR z G (.t x) u:=by
 cases hv with
 | one h=>exact .t h
 | agg h=>exact .tagg h
theorem Sm.arr(s:Sm F N G st h){id:Nat}{own nn:Bool}{sz:Nat}{l:List T}(hg:st.blks.get id=some (.arr own sz nn l)){z:Fz}{u:Value}(hv:VR z G (.buf id) u) :
  (nn=false∧l=[]∧u= .slice none 0 0)∨(nn=true∧∃r c,G id=some ⟨r, .arr sz true l.length⟩∧u= .slice (some ⟨r,0,none⟩) l.length 0∧h.new r=some c∧c.sz=sz∧Cells (fz F h) sz l c.cells∧(own=true→c.rw=true)∧(own=false→F r)):=by
 cases hv with
 | bufNil hG=>
  obtain ⟨e,hb⟩:=s.br hg hG
  simp only [kindOf,Gk.arr.injEq] at e
  obtain ⟨_,e2,_⟩:=e
  subst e2
  rcases hb with ⟨_,h2⟩ | ⟨h1,_⟩
  ·exact .inl ⟨rfl,h2,rfl⟩
  ·cases h1
 | buf hG=>
  obtain ⟨e,hb⟩:=s.br hg hG
  simp only [kindOf,Gk.arr.injEq] at e
  obtain ⟨e1,e2,e3⟩:=e
  subst e1 e2 e3
  rcases hb with ⟨h1,_⟩ | ⟨_,c,h2,h3,h4,h5,h6⟩
  ·cases h1
  ·exact .inr ⟨rfl,_,c,hG,rfl,h2,h3,h4,h5,h6⟩
theorem Sm.frozen(s:Sm F N G st h){id:Nat}{nn:Bool}{sz:Nat}{l:List T}(hg:st.blks.get id=some (.arr false sz nn l)){z:Fz}{u:Value}(hv:VR z G (.buf id) u) :SR (fz F h) (.list sz nn l) u:=by
 rcases s.arr hg hv with ⟨rfl,rfl,rfl⟩ | ⟨rfl,r,c,h1,rfl,h3,h4,h5,_,h7⟩
 ·exact .nil sz
 ·have hF:=h7 rfl
  refine .list (fun j=>(c.cells[j]?).getD AM.junk) (.inr ⟨hF,(s.ok.new _ _ h3).1,rfl,c,h3,h4⟩) h5.each (fun j hj=> ?_) (fun i x j y hi hj=> ?_)
  ·rw [add_none,Nat.zero_add]
   refine ⟨.inr hF, ?_⟩
   unfold Hp.cell
   simp only [h3,Option.isNone_none,cond_true]
   have hj:j<c.cells.length:=Nat.lt_of_lt_of_le hj h5.len
   rw [List.getElem?_eq_getElem hj]
   rfl
  ·obtain ⟨v,a,b⟩:=h5.at_ i x j y hi hj
   rw [a]
   exact b
theorem contC_some{R:Type}{bs:Bs}{v:V}{K:Nat→Bool→List T→Option R}{r:R}(hk:contC bs v K=some r) :
  (∃sz nn l,v= .t (.list sz nn l)∧K sz nn l=some r)∨(∃id own sz nn l,v= .buf id∧bs.get id=some (.arr own sz nn l)∧K sz nn l=some r):=by
 unfold contC at hk
 split at hk
 ·split at hk
  ·exact .inl ⟨_,_,_,rfl,hk⟩
  ·cases hk
 ·split at hk
  ·rename_i hb
   split at hk
   ·exact .inr ⟨_,_,_,_,_,rfl,hb,hk⟩
   ·cases hk
  ·cases hk
 ·cases hk
theorem close1_some{R:Type}{bs:Bs}{v:V}{K:T→Option R}{r:R}(hk:close1 bs v K=some r) :
  (∃x,v= .t x∧K x=some r)∨(∃id own sz nn l,v= .buf id∧bs.get id=some (.arr own sz nn l)∧K (.list sz nn l)=some r):=by
 unfold close1 at hk
 split at hk
 ·exact .inl ⟨_,rfl,hk⟩
 ·rcases contC_some hk with ⟨_,_,_,h1,_⟩ | ⟨id,own,sz,nn,l,h1,h2,h3⟩
  ·cases h1
  ·cases h1
   exact .inr ⟨_,own,sz,nn,l,rfl,h2,h3⟩
 ·cases hk
def Closes(bs:Bs)(v:V)(x:T) :Prop:=
 ∀{F N:NS} {G:GM} {st:St} {h:Hp} {z:Fz} {u:Value},Sm F N G st h→(∀id∈v.bufs,∀own sz nn l,bs.get id=some (.arr own sz nn l)→st.blks.get id=some (.arr false sz nn l))→Fz.le z (fz F h)→VR z G v u→TR (fz F h) x u
theorem close1_ok{R:Type}{bs:Bs}{v:V}{K:T→Option R}{r:R}(hk:close1 bs v K=some r) :∃x,K x=some r∧
  ∀{F N:NS} {G:GM} {st:St} {h:Hp} {z:Fz} {u:Value},Sm F N G st h→(∀id∈buf1 v,∀own sz nn l,bs.get id=some (.arr own sz nn l)→st.blks.get id=some (.arr false sz nn l))→Fz.le z (fz F h)→VR z G v u→TR (fz F h) x u:=by
 rcases close1_some hk with ⟨x,rfl,h⟩ | ⟨id,own,sz,nn,l,rfl,h1,h2⟩
 ·exact ⟨x,h,fun s _ hz hv=>(vr_t hv).mono hz⟩
 ·exact ⟨_,h2,fun s hf hz hv=> .one (s.frozen (hf id (by simp [buf1]) _ _ _ _ h1) hv)⟩
theorem sr_of_tr{z:Fz}{x:T}{u:Value}(h:TR z x u)(hs:scal x=true) :SR z x u:=by
 cases h with
 | one h=>exact h
 | agg h=>cases hs
theorem closes_ok{R:Type}{bs:Bs}{r:R} :∀{vs:List V} {K:List T→Option R},closes bs vs K=some r→∃xs,K xs=some r∧
  ∀{F N:NS} {G:GM} {st:St} {h:Hp} {z:Fz} {us:List Value},Sm F N G st h→(∀id∈vs.flatMap buf1,∀own sz nn l,bs.get id=some (.arr own sz nn l)→st.blks.get id=some (.arr false sz nn l))→Fz.le z (fz F h)→VRs z G vs us→SRs (fz F h) xs us
 | [],K,hk=>⟨[],hk,fun s _ _ hv=>by cases hv; exact .nil⟩
 | v::vs,K,hk=>by
  obtain ⟨x,h1,h2⟩:=close1_ok hk
  obtain ⟨hsc,h1⟩:=needC_some h1
  obtain ⟨xs,h3,h4⟩:=closes_ok h1
  refine ⟨x::xs,h3,fun s hf hz hv=> ?_⟩
  cases hv with
  | cons a b=>
   exact .cons (sr_of_tr (h2 s (fun id hi=>hf id (by simp [hi])) hz a) hsc) (h4 s (fun id hi=>hf id (List.mem_flatMap.2 (by
    obtain ⟨w,h1,h2⟩:=List.mem_flatMap.1 hi
    exact ⟨w,List.mem_cons_of_mem _ h1,h2⟩))) hz b)
theorem close_ok{R:Type}{bs:Bs}{v:V}{K:T→Option R}{r:R}(hk:close bs v K=some r) :∃x,K x=some r∧Closes bs v x:=by
 unfold close at hk
 split at hk
 ·obtain ⟨xs,h1,h2⟩:=closes_ok hk
  refine ⟨_,h1,fun s hf hz hv=> ?_⟩
  cases hv with
  | agg hvs=>exact .agg (h2 s hf hz hvs)
 ·rename_i hne
  obtain ⟨x,h1,h2⟩:=close1_ok hk
  refine ⟨x,h1,fun s hf hz hv=>h2 s (fun id hi=>hf id ?_) hz hv⟩
  unfold V.bufs
  split
  ·exact absurd rfl (hne _)
  ·exact hi
theorem closeF_ok{R:Type}(s:Sm F N G st h){z:Fz}{v:V}{u:Value}(hz:Fz.le z (fz F h))(hv:VR z G v u){K:T→St→Option R}{r:R}(hk:closeF st v K=some r) :
  ∃x st' F',K x st'=some r∧Step F N G st h F' G st' h∧TR (fz F' h) x u:=by
 unfold closeF at hk
 obtain ⟨x,h1,h2⟩:=close_ok hk
 obtain ⟨F',x1⟩:=step_freeze (G:=G) (N:=N) (h:=h) v.bufs s
 refine ⟨x,_,F',h1,x1,h2 x1.sm (fun id hid own sz nn l hb=> ?_) (Fz.le_trans hz x1.le) hv⟩
 rw [freeze_get,hb]
 simp [hid,ownOff]
theorem closeFs_ok{R:Type}{r:R} :∀{vs:List V} {us:List Value} {F:NS} {st:St} {K:List T→St→Option R} {z:Fz},Sm F N G st h→Fz.le z (fz F h)→VRs z G vs us→closeFs st vs K=some r→
  ∃xs st' F',K xs st'=some r∧Step F N G st h F' G st' h∧All2 (TR (fz F' h)) xs us
 | [],us,F,st,K,z,s,hz,hv,hk=>by
  cases hv
  exact ⟨[],st,F,hk,Step.refl s, .nil⟩
 | v::vs,us,F,st,K,z,s,hz,hv,hk=>by
  cases hv with
  | cons a b=>
   obtain ⟨x,st1,F1,h1,x1,h2⟩:=closeF_ok s hz a hk
   obtain ⟨xs,st2,F2,h3,x2,h4⟩:=closeFs_ok x1.sm (Fz.le_trans hz x1.le) b h1
   exact ⟨x::xs,st2,F2,h3,x1.trans x2, .cons (h2.mono x2.le) h4⟩
end
end Go.Proofs.Ytpfploolkmcalaa.VM
end
section
namespace Go.Proofs.Ytpfploolkmcalaa.VM
open Go AM
set_option linter.unusedSectionVars false
set_option linter.unusedSimpArgs false
set_option linter.unusedVariables false
section
variable {F F' N:NS} {G G':GM} {st st':St} {h h':Hp} {R:Type} {z:Fz}
theorem allT_some :∀{vs:List V} {ts:List T},allT vs=some ts→vs=ts.map .t∧∀x∈ts,scal x=true
 | [],ts,h=>by cases h; exact ⟨rfl,fun _ h=>nomatch h⟩
 | v::vs,ts,h=>by
  unfold allT at h
  split at h
  ·split at h
   ·cases h
   ·rename_i x hx
    obtain ⟨us,h1,h2⟩:=Option.map_eq_some_iff.1 h
    subst h2
    obtain ⟨h3,h4⟩:=allT_some h1
    refine ⟨by rw [h3]; rfl,fun y hy=> ?_⟩
    rcases List.mem_cons.1 hy with rfl | hy
    ·unfold scal; split
     ·exact absurd rfl (hx _)
     ·rfl
    ·exact h4 y hy
  ·cases h
theorem srs_of_vrs :∀{ts:List T} {us:List Value},VRs z G (ts.map .t) us→(∀x∈ts,scal x=true)→SRs z ts us
 | [],us,h,_=>by cases h; exact .nil
 | t::ts,us,h,hs=>by
  cases h with
  | cons a b=>exact .cons (sr_of_tr (vr_t a) (hs t (List.mem_cons_self ..))) (srs_of_vrs b fun x hx=>hs x (List.mem_cons_of_mem _ hx))
theorem vrs_of_srs :∀{ts:List T} {us:List Value},SRs z ts us→VRs z G (ts.map .t) us
 | [],us,h=>by cases h; exact .nil
 | t::ts,us,h=>by
  cases h with
  | cons a b=>exact .cons (.t a) (vrs_of_srs b)
theorem aggV_ok{vs:List V}{a:Array Value}(h:VRs z G vs a.toList) :VR z G (aggV vs) (.agg a):=by
 unfold aggV
 split
 ·rename_i ts ht
  obtain ⟨h1,h2⟩:=allT_some ht
  subst h1
  exact .tagg (srs_of_vrs h h2)
 ·exact .agg h
theorem cells_ok{v:V}{u:Value}(h:VR z G v u)(hne:∀vs,v ≠ .tup vs)(hj:v ≠ .junk) :VRs z G v.cells u.cells.toList:=by
 cases h with
 | t h=>
  have h':=h
  cases h <;>exact .cons (.t h') .nil
 | tagg h=>exact vrs_of_srs h
 | con hp=>
  cases u <;>first | exact .cons (.con hp) .nil | cases hp
 | bufNil h=>exact .cons (.bufNil h) .nil
 | buf h=>exact .cons (.buf h) .nil
 | ptrA h=>exact .cons (.ptrA h) .nil
 | ptrV h=>exact .cons (.ptrV h) .nil
 | ptrW h=>exact .cons (.ptrW h) .nil
 | pt f h=>exact .cons (.pt f h) .nil
 | map h=>exact .cons (.map h) .nil
 | fn g a b=>exact .cons (.fn g a b) .nil
 | agg h=>exact h
 | tup h=>exact absurd rfl (hne _)
 | junk v=>exact absurd rfl hj
theorem okV_ok{v:V}{u:Value}(h:VR z G v u)(ho:okV v=true) :okCell u=true:=by
 cases h with
 | t h=>cases h <;>rfl
 | con hp=>cases u <;>first | rfl | cases hp
 | tagg h=>cases ho
 | agg h=>cases ho
 | tup h=>cases ho
 | junk v=>cases ho
 | _=>rfl
theorem okVs_ok :∀{vs:List V} {us:List Value},VRs z G vs us→vs.all okV=true→oneCells us=true
 | _,_, .nil,_=>rfl
 | _,_, .cons a b,h=>by
  simp only [List.all_cons,Bool.and_eq_true] at h
  simp only [oneCells,List.all_cons,Bool.and_eq_true]
  exact ⟨okV_ok a h.1,okVs_ok b h.2⟩
theorem sr_okCell{x:T}{u:Value}(h:SR z x u) :okCell u=true:=by cases h <;>rfl
theorem srs_one :∀{xs:List T} {us:List Value},SRs z xs us→oneCells us=true
 | _,_, .nil=>rfl
 | _,_, .cons a b=>by
  simp only [oneCells,List.all_cons,Bool.and_eq_true]
  exact ⟨sr_okCell a,srs_one b⟩
theorem sr_cells{x:T}{u:Value}(h:SR z x u) :u.cells= #[u]∧x.cells=[x]:=by cases h <;>exact ⟨rfl,rfl⟩
theorem tr_cells{x:T}{u:Value}(h:TR z x u) :SRs z x.cells u.cells.toList:=by
 cases h with
 | one h=>
  obtain ⟨a,b⟩:=sr_cells h
  rw [a,b]
  exact .cons h .nil
 | agg h=>exact h
/-! ### forms -/
theorem fitT1_some{p:TP1}{x:T}{K:T→Option R}{r:R}(hk:fitT1 p x K=some r) :K x=some r∧fits1 p x=true:=by
 unfold fitT1 at hk
 cases p <;>cases x <;>simp only at hk <;>first | cases hk | exact ⟨hk,rfl⟩ | skip
 ·rename_i k k' n
  cases hd:decide (k'=k) <;>rw [hd] at hk
  ·cases hk
  ·have:=of_decide_eq_true hd
   subst this
   exact ⟨hk,by simp [fits1]⟩
 ·rename_i s s' nn l
  cases hd:s'==s <;>rw [hd] at hk
  ·cases hk
  ·have:s'=s:=by simpa using hd
   subst this
   exact ⟨hk,by simp [fits1]⟩
theorem fitTs_some{r:R} :∀{ps:List TP1} {xs:List T} {K:List T→Option R},fitTs ps xs K=some r→K xs=some r∧All2 (fun p x=>fits1 p x=true) ps xs
 | [],[],K,hk=>⟨hk, .nil⟩
 | [],_::_,K,hk=>by cases hk
 | _::_,[],K,hk=>by cases hk
 | p::ps,x::xs,K,hk=>by
  rw [fitTs] at hk
  obtain ⟨h1,h2⟩:=fitT1_some hk
  obtain ⟨h3,h4⟩:=fitTs_some h1
  exact ⟨h3, .cons h2 h4⟩
def isT(p:TP)(x:T) :Prop:=
 match p with
 | .one p=>fits1 p x=true
 | .agg ps=>∃cs,x= .agg cs∧All2 (fun p x=>fits1 p x=true) ps cs
theorem fitT_some{p:TP}{x:T}{K:T→Option R}{r:R}(hk:fitT p x K=some r) :K x=some r∧isT p x:=by
 unfold fitT at hk
 split at hk
 ·exact fitT1_some hk
 ·split at hk
  ·obtain ⟨h1,h2⟩:=fitTs_some hk
   exact ⟨h1,_,rfl,h2⟩
  ·cases hk
def isV1(p:TP1)(v:V) :Prop:=
 match v with
 | .t x=>fits1 p x=true
 | .buf _=>∃s,p= .list s
 | .ptr .. =>p= .ptr
 | .pt _=>p= .ptr
 | .map _=>p= .map
 | .fn .. =>p= .oth
 | .con u=>(p= .ptr∧u= .pointer none)∨(p= .map∧u= .map none)∨p= .oth
 | _=>False
theorem fitV1_some{p:TP1}{v:V}{K:V→Option R}{r:R}(hk:fitV1 p v K=some r) :K v=some r∧isV1 p v:=by
 unfold fitV1 at hk
 cases v with
 | t x=>exact fitT1_some hk
 | buf id=>cases p <;>first | exact ⟨hk,_,rfl⟩ | cases hk
 | ptr a i o=>cases p <;>first | exact ⟨hk,rfl⟩ | cases hk
 | pt x=>cases p <;>first | exact ⟨hk,rfl⟩ | cases hk
 | map x=>cases p <;>first | exact ⟨hk,rfl⟩ | cases hk
 | fn g f c=>cases p <;>first | exact ⟨hk,rfl⟩ | cases hk
 | con u=>
  cases p <;>simp only at hk
  all_goals first | cases hk | skip
  ·split at hk
   ·split at hk
    ·exact ⟨hk, .inl ⟨rfl,rfl⟩⟩
    ·cases hk
   ·cases hk
  ·split at hk
   ·split at hk
    ·exact ⟨hk, .inr (.inl ⟨rfl,rfl⟩)⟩
    ·cases hk
   ·cases hk
  ·split at hk
   ·exact ⟨hk, .inr (.inr rfl)⟩
   ·exact ⟨hk, .inr (.inr rfl)⟩
   ·cases hk
 | agg vs=>cases hk
 | tup vs=>cases hk
 | junk=>cases hk
theorem fitVs_some{r:R} :∀{ps:List TP1} {xs:List V} {K:List V→Option R},fitVs ps xs K=some r→K xs=some r∧All2 isV1 ps xs
 | [],[],K,hk=>⟨hk, .nil⟩
 | [],_::_,K,hk=>by cases hk
 | _::_,[],K,hk=>by cases hk
 | p::ps,x::xs,K,hk=>by
  rw [fitVs] at hk
  obtain ⟨h1,h2⟩:=fitV1_some hk
  obtain ⟨h3,h4⟩:=fitVs_some h1
  exact ⟨h3, .cons h2 h4⟩
/-! ### zero values, and what AM reads in their form -/
theorem like1_T{p:TP1}{zv:Value}(hz:tpz1 p zv=true){x:T}{u:Value}(hx:fits1 p x=true)(hr:SR z x u)(K:Value→Option R) :like1C zv u K=K u:=by
 cases hr with
 | int k n=>
  cases p <;>simp only [fits1] at hx <;>try (cases hx)
  cases zv <;>simp only [tpz1,Bool.and_eq_true] at hz <;>try (cases hz)
  rename_i k0 k1 n1 hz1 hz2
  have e1:=of_decide_eq_true hx
  have e2:=of_decide_eq_true hz1
  subst e1 e2
  simp [like1C,asIntC]
 | bool b=>
  cases p <;>simp only [fits1] at hx <;>try (cases hx)
  cases zv <;>simp only [tpz1] at hz <;>try (cases hz)
  all_goals rfl
 | str s=>
  cases p <;>simp only [fits1] at hx <;>try (cases hx)
  cases zv <;>simp only [tpz1] at hz <;>try (cases hz)
  all_goals rfl
 | nil sz=>
  cases p <;>simp only [fits1] at hx <;>try (cases hx)
  cases zv <;>simp only [tpz1] at hz <;>try (cases hz)
  all_goals rfl
 | list f a b c d=>
  cases p <;>simp only [fits1] at hx <;>try (cases hx)
  cases zv <;>simp only [tpz1] at hz <;>try (cases hz)
  all_goals rfl
theorem like1_V{p:TP1}{zv:Value}(hz:tpz1 p zv=true){v:V}{u:Value}(hx:isV1 p v)(hr:VR z G v u)(K:Value→Option R) :like1C zv u K=K u:=by
 have slc:∀{s},p= .list s→∀a n c,like1C zv (.slice a n c) K=K (.slice a n c):=by
  intro s hp a n c
  subst hp
  cases zv <;>simp only [tpz1] at hz <;>try (cases hz)
  all_goals rfl
 have ptr:p= .ptr→∀a,like1C zv (.pointer a) K=K (.pointer a):=by
  intro hp a
  subst hp
  cases zv <;>simp only [tpz1] at hz <;>try (cases hz)
  all_goals rfl
 have mp:p= .map→∀a,like1C zv (.map a) K=K (.map a):=by
  intro hp a
  subst hp
  cases zv <;>simp only [tpz1] at hz <;>try (cases hz)
  all_goals rfl
 have oth:p= .oth→∀u,like1C zv u K=K u:=by
  intro hp u
  subst hp
  cases zv <;>simp only [tpz1] at hz <;>try (cases hz)
  all_goals rfl
 cases hr with
 | t h=>exact like1_T hz hx h K
 | tagg h=>
  simp only [isV1] at hx
  cases p <;>simp [fits1] at hx
 | con hp=>
  rcases hx with ⟨e,rfl⟩ | ⟨e,rfl⟩ | e
  ·exact ptr e _
  ·exact mp e _
  ·exact oth e _
 | bufNil h=>obtain ⟨s,hp⟩:=hx; exact slc hp _ _ _
 | buf h=>obtain ⟨s,hp⟩:=hx; exact slc hp _ _ _
 | ptrA h=>exact ptr hx _
 | ptrV h=>exact ptr hx _
 | ptrW h=>exact ptr hx _
 | pt f h=>exact ptr hx _
 | map h=>exact mp hx _
 | fn g a b=>exact oth hx _
 | agg h=>cases hx
 | tup h=>cases hx
 | junk v=>cases hx
theorem tpzs_all :∀{ps:List TP1} {zs:List Value},tpzs ps zs=true→All2 (fun p v=>tpz1 p v=true) ps zs
 | [],[],_=> .nil
 | [],_::_,h=>by cases h
 | _::_,[],h=>by cases h
 | p::ps,zv::zs,h=>by
  simp only [tpzs,Bool.and_eq_true] at h
  exact .cons h.1 (tpzs_all h.2)
variable (P:Program)
theorem zeroC_some{t:TypeId}{K:Value→Option R}{r:R}(hk:zeroC P t K=some r) :∃i zv,P.info? t=some i∧i.zero=some zv∧plainC zv=true∧K zv=some r:=by
 unfold zeroC at hk
 split at hk
 ·rename_i i hi
  split at hk
  ·rename_i zv hz
   obtain ⟨h1,h2⟩:=needC_some hk
   exact ⟨i,zv,hi,hz,h1,h2⟩
  ·cases hk
 ·cases hk
theorem zeroC_to{t:TypeId}{i:TypeInfo}{zv:Value}(h1:P.info? t=some i)(h2:i.zero=some zv)(h3:plainC zv=true)(K:Value→Option R) :zeroC P t K=K zv:=by
 unfold zeroC; simp only [h1,h2,h3]; rfl
theorem sizeC_some{t:TypeId}{K:Nat→Option R}{r:R}(hk:sizeC P t K=some r) :∃i,P.info? t=some i∧K i.size=some r:=by
 unfold sizeC at hk
 split at hk
 ·rename_i i hi; exact ⟨i,hi,hk⟩
 ·cases hk
theorem sizeC_to{t:TypeId}{i:TypeInfo}(h1:P.info? t=some i)(K:Nat→Option R) :sizeC P t K=K i.size:=by
 unfold sizeC; simp only [h1]
theorem elemC_some{t:TypeId}{K:TypeId→Option R}{r:R}(hk:elemC P t K=some r) :∃e,P.underlying t=some (.slice e)∧K e=some r:=by
 unfold elemC at hk
 split at hk
 ·rename_i e he; exact ⟨e,he,hk⟩
 ·cases hk
theorem elemC_to{t e:TypeId}(h1:P.underlying t=some (.slice e))(K:TypeId→Option R) :elemC P t K=K e:=by
 unfold elemC; simp only [h1]
structure TPof (t:TypeId) (p:TP) (zv:Value) (i:TypeInfo):Prop where
 tp:tpOf P t=some p
 info:P.info? t=some i
 zero:i.zero=some zv
 plain:plainC zv=true
 tpz:tpz p zv=true
 size:zv.cells.size=i.size
theorem tpC_some{t:TypeId}{K:TP→Value→Option R}{r:R}(hk:tpC P t K=some r) :∃p zv i,TPof P t p zv i∧K p zv=some r:=by
 unfold tpC at hk
 split at hk
 ·rename_i p i hp hi
  obtain ⟨i',zv,h1,h2,h3,h4⟩:=zeroC_some P hk
  rw [hi] at h1
  cases h1
  obtain ⟨h5,h6⟩:=needC_some h4
  simp only [Bool.and_eq_true,decide_eq_true_eq] at h5
  exact ⟨p,zv,i,⟨hp,hi,h2,h3,h5.1,h5.2⟩,h6⟩
 ·cases hk
theorem tp_agg{t:TypeId}{ps:List TP1}(h:tpOf P t=some (.agg ps)) :(∃fs,P.underlying t=some (.struct fs))∨∃n e,P.underlying t=some (.array n e):=by
 unfold tpOf at h
 split at h
 ·rename_i fs hf; exact .inl ⟨_,hf⟩
 ·rename_i n e hf; exact .inr ⟨_,_,hf⟩
 ·obtain ⟨x,_,h2⟩:=Option.map_eq_some_iff.1 h
  cases h2
theorem tp_one{t:TypeId}{q:TP1}(h:tpOf P t=some (.one q)) :∃d,P.underlying t=some d∧(∀fs,d ≠ .struct fs)∧∀n e,d ≠ .array n e:=by
 unfold tpOf at h
 split at h
 ·obtain ⟨x,_,h2⟩:=Option.map_eq_some_iff.1 h
  cases h2
 ·obtain ⟨x,_,h2⟩:=Option.map_eq_some_iff.1 h
  cases h2
 ·rename_i h1 h2
  obtain ⟨x,h3,_⟩:=Option.map_eq_some_iff.1 h
  cases hu:P.underlying t with
  | none=>rw [tp1Of,hu] at h3; cases h3
  | some d=>
   rw [hu] at h1 h2
   exact ⟨d,rfl,fun fs e=>h1 fs (by rw [e]),fun n el e=>h2 n el (by rw [e])⟩
theorem aggC_agg{t:TypeId}{ps:List TP1}(h:tpOf P t=some (.agg ps))(K:Bool→Option R) :aggC P t K=K true:=by
 unfold aggC
 rcases tp_agg P h with ⟨fs,hf⟩ | ⟨n,e,hf⟩ <;>simp only [hf]
theorem aggC_one{t:TypeId}{q:TP1}(h:tpOf P t=some (.one q))(K:Bool→Option R) :aggC P t K=K false:=by
 obtain ⟨d,h1,h2,h3⟩:=tp_one P h
 unfold aggC
 rw [h1]
 split
 ·rename_i e; exact absurd (Option.some.inj e) (h2 _)
 ·rename_i e; exact absurd (Option.some.inj e) (h3 _ _)
 ·rfl
 ·rename_i e; cases e
theorem ldCells_to{h:Hp}{ad:Addr} :∀{zs us:List Value} {i:Nat} (K:List Value→Option R),zs.length=us.length→(∀(j:Nat) (u zv:Value),us[j]? =some u→zs[j]? =some zv→h.cell (ad.add (i+j))=some u∧∀K:Value→Option R,like1C zv u K=K u)→h.ldCellsC ad zs i K=K us
 | [],[],i,K,_,_=>rfl
 | [],_::_,i,K,hl,_=>by simp at hl
 | _::_,[],i,K,hl,_=>by simp at hl
 | zv::zs,u::us,i,K,hl,hc=>by
  obtain ⟨h1,h2⟩:=hc 0 u zv rfl rfl
  rw [Nat.add_zero] at h1
  unfold Hp.ldCellsC Hp.ldC
  rw [h1]
  simp only [h2]
  refine ldCells_to (fun us=>K (u::us)) (by simpa using hl) fun j u' z' hj hz=> ?_
  have:=hc (j+1) u' z' (by simpa using hj) (by simpa using hz)
  rw [show i+(j+1)=i+1+j by omega] at this
  exact this
theorem loadC_agg{t:TypeId}{ps:List TP1}{zv:Value}{i:TypeInfo}(hp:TPof P t (.agg ps) zv i){ad:Addr}{us:List Value}(hl:ps.length=us.length)
  (hc:∀(j:Nat) (u:Value) (q:TP1),us[j]? =some u→ps[j]? =some q→h.cell (ad.add j)=some u∧∀(R:Type) (y:Value) (K:Value→Option R),tpz1 q y=true→like1C y u K=K u) (K:Value→Option R):
  loadC P h t ad K=K (.agg us.toArray):=by
 unfold loadC
 rw [aggC_agg P hp.tp,zeroC_to P hp.info hp.zero hp.plain]
 simp only [cond_true]
 rw [sizeC_to P hp.info]
 have hz:=hp.tpz
 cases zv with
 | agg zs=>
  simp only [tpz] at hz
  have ha:=tpzs_all hz
  have hs:decide ((Value.agg zs).cells.size=i.size)=true:=decide_eq_true hp.size
  rw [hs]
  unfold needC
  simp only [cond_true,Value.cells]
  refine ldCells_to (fun us=>K (.agg us.toArray)) (by rw [←ha.length]; exact hl) fun j u y hj hy=> ?_
  rw [Nat.zero_add]
  have hjl:j<us.length:=by
   rcases Nat.lt_or_ge j us.length with h | h
   ·exact h
   ·rw [List.getElem?_eq_none h] at hj; cases hj
  have hq:ps[j]? =some (ps[j]'(by omega)):=List.getElem?_eq_getElem (by omega)
  obtain ⟨h1,h2⟩:=hc j u _ hj hq
  obtain ⟨y',hy',hz'⟩:=ha.get hq
  rw [hy] at hy'
  cases hy'
  exact ⟨h1,fun K=>h2 _ y K hz'⟩
 | _=>simp [tpz] at hz
theorem loadC_one{t:TypeId}{q:TP1}{zv:Value}{i:TypeInfo}(hp:TPof P t (.one q) zv i){ad:Addr}{u:Value}(hc:h.cell ad=some u)(hl:∀(R:Type) (y:Value) (K:Value→Option R),tpz1 q y=true→like1C y u K=K u)(K:Value→Option R) :
  loadC P h t ad K=K u:=by
 unfold loadC
 rw [aggC_one P hp.tp,zeroC_to P hp.info hp.zero hp.plain]
 simp only [cond_false]
 unfold Hp.ldC
 rw [hc]
 exact hl _ _ _ hp.tpz
end
end Go.Proofs.Ytpfploolkmcalaa.VM
end
section
namespace Go.Proofs.Ytpfploolkmcalaa.VM
open Go AM
set_option linter.unusedSectionVars false
set_option linter.unusedSimpArgs false
set_option linter.unusedVariables false
section
variable {F F' N:NS} {G G':GM} {st st':St} {h h':Hp} {R:Type} {z:Fz} (P:Program)
def Row(z:Fz)(cs:List Value)(o:Nat)(xs:List T) :Prop:=∀j y,xs[j]? =some y→∃v,cs[o+j]? =some v∧SR z y v
theorem Row.srs{cs:List Value}{o:Nat}{xs:List T}(h:Row z cs o xs) :SRs z xs ((cs.drop o).take xs.length):=by
 have hlen:((cs.drop o).take xs.length).length=xs.length:=by
  rw [List.length_take,List.length_drop]
  cases hx:xs.length with
  | zero=>simp
  | succ n=>
   obtain ⟨v,h1,_⟩:=h n (xs[n]'(by omega)) (List.getElem?_eq_getElem (by omega))
   have:o+n<cs.length:=by
    rcases Nat.lt_or_ge (o+n) cs.length with h | h
    ·exact h
    ·rw [List.getElem?_eq_none h] at h1; cases h1
   omega
 refine All2.of_get hlen.symm fun j y v hy hv=> ?_
 obtain ⟨v',h1,h2⟩:=h j y hy
 have:j<xs.length:=by
  rcases Nat.lt_or_ge j xs.length with h | h
  ·exact h
  ·rw [List.getElem?_eq_none h] at hy; cases hy
 rw [List.getElem?_take,if_pos this,List.getElem?_drop,h1] at hv
 cases hv
 exact h2
theorem Row.sub{cs:List Value}{o:Nat}{xs:List T}(h:Row z cs o xs)(off n:Nat) :Row z cs (o+off) ((xs.drop off).take n):=fun j y hy=>by
 rw [List.getElem?_take] at hy
 split at hy
 ·rw [List.getElem?_drop] at hy
  rw [Nat.add_assoc]
  exact h (off+j) y hy
 ·cases hy
theorem cell_of{r:Nat}{c:AM.Blk}(hc:h.new r=some c)(o:Nat) :h.cell ⟨r,o,none⟩=c.cells[o]? :=by
 unfold Hp.cell
 simp only [hc,Option.isNone_none,cond_true]
theorem fits_scal{p:TP1}{x:T}(h:fits1 p x=true) :x.cells=[x]:=by
 cases x <;>first | rfl | (cases p <;>cases h)
theorem load_T{t:TypeId}{p:TP}{zv:Value}{ti:TypeInfo}(hp:TPof P t p zv ti){r:Nat}{c:AM.Blk}(hc:h.new r=some c){o:Nat}{x:T}(hx:isT p x)(hr:Row z c.cells o x.cells) :
  ∃w,TR z x w∧∀(R:Type) (KA:Value→Option R),loadC P h t ⟨r,o,none⟩ KA=KA w:=by
 cases p with
 | one q=>
  have hx:fits1 q x=true:=hx
  have h1:=fits_scal hx
  rw [h1] at hr
  obtain ⟨v,h2,h3⟩:=hr 0 x rfl
  exact ⟨v, .one h3,fun R KA=>loadC_one P hp (by rw [cell_of hc]; exact h2) (fun R y K hy=>like1_T hy hx h3 K) KA⟩
 | agg ps=>
  obtain ⟨cs,rfl,hf⟩:=hx
  have hs:SRs z cs ((c.cells.drop o).take cs.length):=hr.srs
  refine ⟨_, .agg (vs:=((c.cells.drop o).take cs.length).toArray) (by simpa using hs),fun R KA=>loadC_agg P hp (hf.length.trans hs.length) (fun j u q hj hq=> ?_) KA⟩
  obtain ⟨y,hy,hfy⟩:=hf.get hq
  obtain ⟨v,h1,h2⟩:=hr j y hy
  obtain ⟨v',h3,h4⟩:=hs.get hy
  rw [hj] at h3
  cases h3
  refine ⟨?_,fun R y' K hy'=>like1_T hy' hfy h4 K⟩
  rw [add_none,cell_of hc]
  have:j<cs.length:=by
   rcases Nat.lt_or_ge j cs.length with h | h
   ·exact h
   ·rw [List.getElem?_eq_none h] at hy; cases hy
  rw [List.getElem?_take,if_pos this,List.getElem?_drop] at hj
  exact hj
theorem load_V{t:TypeId}{p:TP}{zv:Value}{ti:TypeInfo}(hp:TPof P t p zv ti){r:Nat}{c:AM.Blk}(hc:h.new r=some c){cs:List V}(hcs:All2 (VR z G) cs c.cells){i off:Nat}{K:V→Option R}{q:R}(hk:ldB p (.var cs) i off K=some q) :
  ∃v w,K v=some q∧VR z G v w∧∀(R:Type) (KA:Value→Option R),loadC P h t ⟨r,off,none⟩ KA=KA w:=by
 unfold ldB at hk
 cases p with
 | one p=>
  simp only at hk
  unfold getV at hk
  split at hk
  ·rename_i v hv
   obtain ⟨h1,h2⟩:=fitV1_some hk
   obtain ⟨w,h3,h4⟩:=hcs.get hv
   exact ⟨v,w,h1,h4,fun R KA=>loadC_one P hp (by rw [cell_of hc]; exact h3) (fun R y K hy=>like1_V hy h2 h4 K) KA⟩
  ·cases hk
 | agg ps=>
  simp only at hk
  obtain ⟨h1,h2⟩:=fitVs_some hk
  have h3:=(hcs.drop off).take ps.length
  refine ⟨_, .agg ((c.cells.drop off).take ps.length).toArray,h1,aggV_ok (by simpa using VRs.of h3),fun R KA=>loadC_agg P hp (h2.length.trans h3.length) (fun j u q hj hq=> ?_) KA⟩
  obtain ⟨y,hy,hfy⟩:=h2.get hq
  obtain ⟨v,h4,h5⟩:=h3.get hy
  rw [hj] at h4
  cases h4
  refine ⟨?_,fun R y' K hy'=>like1_V hy' hfy h5 K⟩
  rw [add_none,cell_of hc]
  rw [List.getElem?_take] at hj
  split at hj
  ·rw [List.getElem?_drop] at hj; exact hj
  ·cases hj
theorem Cells.row{sz:Nat}{l:List T}{cs:List Value}(hc:Cells z sz l cs){i:Nat}{x:T}(hi:l[i]? =some x) :Row z cs (i*sz) x.cells:=fun j y hy=>hc.at_ i x j y hi hy
theorem getT_some{l:List T}{i:Nat}{K:T→Option R}{r:R}(h:getT l i K=some r) :∃x,l[i]? =some x∧K x=some r:=by
 unfold getT at h
 split at h
 ·exact ⟨_,by assumption,h⟩
 ·cases h
theorem getV_some{l:List V}{i:Nat}{K:V→Option R}{r:R}(h:getV l i K=some r) :∃x,l[i]? =some x∧K x=some r:=by
 unfold getV at h
 split at h
 ·exact ⟨_,by assumption,h⟩
 ·cases h
theorem load_arr{t:TypeId}{p:TP}{zv:Value}{ti:TypeInfo}(hp:TPof P t p zv ti){r:Nat}{c:AM.Blk}(hc:h.new r=some c){own nn:Bool}{sz:Nat}{l:List T}(hcs:Cells z sz l c.cells){i off:Nat}{K:V→Option R}{q:R}(hk:ldB p (.arr own sz nn l) i off K=some q) :
  ∃v w,K v=some q∧VR z G v w∧∀(R:Type) (KA:Value→Option R),loadC P h t ⟨r,i*sz+off,none⟩ KA=KA w:=by
 simp only [ldB] at hk
 obtain ⟨x,hx,hk⟩:=getT_some hk
 have hrow:=hcs.row hx
 have fin:∀{y:T},isT p y→Row z c.cells (i*sz+off) y.cells→K (.t y)=some q→∃v w,K v=some q∧VR z G v w∧∀(R:Type) (KA:Value→Option R),loadC P h t ⟨r,i*sz+off,none⟩ KA=KA w:=by
  intro y h1 h2 h3
  obtain ⟨w,h4,h5⟩:=load_T P hp hc h1 h2
  exact ⟨_,w,h3,tr_v h4,h5⟩
 cases h1:sz==1 <;>rw [h1] at hk <;>simp only [cond_true,cond_false] at hk
 ·cases p with
  | one p=>
   simp only at hk
   obtain ⟨y,hy,hk⟩:=getT_some hk
   obtain ⟨hk,hf⟩:=fitT1_some hk
   refine fin hf ?_ hk
   rw [fits_scal hf]
   intro j y' hj
   cases j with
   | zero=>
    simp only [List.getElem?_cons_zero,Option.some.injEq] at hj
    subst hj
    have:=hrow off y hy
    simpa using this
   | succ j=>simp at hj
  | agg ps=>
   simp only at hk
   cases h2:(off==0 &&ps.length==sz) <;>rw [h2] at hk <;>simp only [cond_true,cond_false] at hk
   ·obtain ⟨hk,hf⟩:=fitTs_some hk
    exact fin ⟨_,rfl,hf⟩ (hrow.sub off ps.length) hk
   ·obtain ⟨hk',hf⟩:=fitT_some hk
    simp only [Bool.and_eq_true,beq_iff_eq] at h2
    have h0:=h2.1
    subst h0
    exact fin hf hrow hk'
 ·obtain ⟨h2,hk⟩:=needC_some hk
  have h2:off=0:=by simpa using h2
  subst h2
  obtain ⟨hk,hf⟩:=fitT_some hk
  exact fin hf hrow hk
theorem load_av{t:TypeId}{p:TP}{zv:Value}{ti:TypeInfo}(hp:TPof P t p zv ti){r:Nat}{c:AM.Blk}(hc:h.new r=some c){l:List T}(hcs:SRs z l c.cells){i off:Nat}{K:V→Option R}{q:R}(hk:ldB p (.av l) i off K=some q) :
  ∃v w,K v=some q∧VR z G v w∧∀(R:Type) (KA:Value→Option R),loadC P h t ⟨r,off,none⟩ KA=KA w:=by
 simp only [ldB] at hk
 have hrow:Row z c.cells 0 l:=fun j y hy=>by rw [Nat.zero_add]; exact hcs.get hy
 have fin:∀{y:T},isT p y→Row z c.cells off y.cells→K (.t y)=some q→∃v w,K v=some q∧VR z G v w∧∀(R:Type) (KA:Value→Option R),loadC P h t ⟨r,off,none⟩ KA=KA w:=by
  intro y h1 h2 h3
  obtain ⟨w,h4,h5⟩:=load_T P hp hc h1 h2
  exact ⟨_,w,h3,tr_v h4,h5⟩
 cases p with
 | one p=>
  simp only at hk
  obtain ⟨y,hy,hk⟩:=getT_some hk
  obtain ⟨hk,hf⟩:=fitT1_some hk
  refine fin hf ?_ hk
  rw [fits_scal hf]
  intro j y' hj
  cases j with
  | zero=>
   simp only [List.getElem?_cons_zero,Option.some.injEq] at hj
   subst hj
   have:=hrow off y hy
   simpa using this
  | succ j=>simp at hj
 | agg ps=>
  simp only at hk
  obtain ⟨hk,hf⟩:=fitTs_some hk
  refine fin ⟨_,rfl,hf⟩ ?_ hk
  have:=hrow.sub off ps.length
  rwa [Nat.zero_add] at this
theorem ldB_ok(s:Sm F N G st h){id:Nat}{b:Blk}(hg:st.blks.get id=some b){i off:Nat}{u:Value}(hz:Fz.le z (fz F h))(hv:VR z G (.ptr id i off) u){t:TypeId}{p:TP}{zv:Value}{ti:TypeInfo}(hp:TPof P t p zv ti){K:V→Option R}{q:R}(hk:ldB p b i off K=some q) :
  ∃v w ad,u= .pointer (some ad)∧K v=some q∧VR (fz F h) G v w∧∀(R:Type) (KA:Value→Option R),loadC P h t ad KA=KA w:=by
 cases hv with
 | ptrA hG=>
  obtain ⟨e,hb⟩:=s.br hg hG
  cases b with
  | arr own sz nn l=>
   simp only [kindOf,Gk.arr.injEq] at e
   obtain ⟨e1,e2,e3⟩:=e
   subst e1 e2 e3
   rcases hb with ⟨h1,_⟩ | ⟨_,c,h2,h3,h4,h5,h6⟩
   ·cases h1
   ·obtain ⟨v,w,a1,a2,a3⟩:=load_arr (G:=G) P hp h2 h4 hk
    exact ⟨v,w,_,rfl,a1,a2,a3⟩
  | var cs=>simp [kindOf] at e
  | av l=>simp [kindOf] at e
  | map es=>simp [kindOf] at e
  | rows sz l=>cases hk
 | ptrV hG=>
  obtain ⟨e,hb⟩:=s.br hg hG
  cases b with
  | var cs=>
   obtain ⟨c,h2,h3,h4,h5⟩:=hb
   obtain ⟨v,w,a1,a2,a3⟩:=load_V P hp h2 h5 hk
   exact ⟨v,w,_,rfl,a1,a2,a3⟩
  | arr own sz nn l=>simp [kindOf] at e
  | av l=>simp [kindOf] at e
  | map es=>simp [kindOf] at e
  | rows sz l=>simp [kindOf] at e
 | ptrW hG=>
  obtain ⟨e,hb⟩:=s.br hg hG
  cases b with
  | av l=>
   obtain ⟨c,h2,h3,h4,h5⟩:=hb
   obtain ⟨v,w,a1,a2,a3⟩:=load_av (G:=G) P hp h2 h5 hk
   exact ⟨v,w,_,rfl,a1,a2,a3⟩
  | arr own sz nn l=>simp [kindOf] at e
  | var l=>simp [kindOf] at e
  | map es=>simp [kindOf] at e
  | rows sz l=>simp [kindOf] at e
/-! ### stores -/
theorem splice_get{A:Type}(cs:List A)(o:Nat)(vs:List A)(hl:o+vs.length≤cs.length)(i:Nat) :(cs.take o++vs++cs.drop (o+vs.length))[i]? =if o≤i∧i<o+vs.length then vs[i - o]? else cs[i]? :=by
 have hlt:(cs.take o).length=o:=by rw [List.length_take]; omega
 by_cases h1:i<o
 ·rw [if_neg (by omega),List.append_assoc,List.getElem?_append_left (by omega),List.getElem?_take,if_pos h1]
 ·by_cases h2:i<o+vs.length
  ·rw [if_pos (by omega),List.append_assoc,List.getElem?_append_right (by omega),hlt,List.getElem?_append_left (by omega)]
  ·rw [if_neg (by omega),List.getElem?_append_right (by rw [List.length_append]; omega),List.length_append,hlt,List.getElem?_drop]
   congr 1
   omega
theorem splice_len{A:Type}(cs:List A)(o:Nat)(vs:List A)(hl:o+vs.length≤cs.length) :(cs.take o++vs++cs.drop (o+vs.length)).length=cs.length:=by
 simp only [List.length_append,List.length_take,List.length_drop]
 omega
theorem all2_splice{A B:Type}{Q:A→B→Prop}{cs:List A}{ds:List B}{vs:List A}{us:List B}(h1:All2 Q cs ds)(h2:All2 Q vs us)(o:Nat) :All2 Q (cs.take o++vs++cs.drop (o+vs.length)) (ds.take o++us++ds.drop (o+us.length)):=by
 rw [h2.length]
 exact ((h1.take o).append h2).append (h1.drop _)
theorem stC_to{r o:Nat}{c:AM.Blk}(hc:h.new r=some c)(hw:c.rw=true){vs:List Value}(hl:o+vs.length≤c.cells.length)(h1:oneCells vs=true)(KA:Hp→Option R) :h.stC ⟨r,o,none⟩ vs KA=KA (h.write r c o vs):=by
 unfold Hp.stC needC
 simp [hc,hw,h1,hl]
theorem Cells.put{sz:Nat}{l:List T}{cs:List Value}(hc:Cells z sz l cs){i off:Nat}{x y':T}{vs:List Value}(hi:l[i]? =some x)(hoff:off+vs.length≤sz)(hy:y'.cells.length=sz)
  (hyc:∀j y,y'.cells[j]? =some y→(off≤j∧j<off+vs.length→∃v,vs[j - off]? =some v∧SR z y v)∧(¬(off≤j∧j<off+vs.length)→x.cells[j]? =some y)):Cells z sz (l.set i y') (splice cs (i*sz+off) vs):=by
 have hil:i<l.length:=by
  rcases Nat.lt_or_ge i l.length with h | h
  ·exact h
  ·rw [List.getElem?_eq_none h] at hi; cases hi
 have hmul:i*sz+sz≤l.length*sz:=by
  have:=Nat.mul_le_mul_right sz (show i+1≤l.length by omega)
  rw [Nat.add_mul,Nat.one_mul] at this
  exact this
 have hb:i*sz+off+vs.length≤cs.length:=by have:=hc.len; omega
 refine ⟨by rw [splice,splice_len _ _ _ hb,List.length_set]; exact hc.len,fun w hw=> ?_,fun k w j y hk hj=> ?_⟩
 ·rcases List.mem_or_eq_of_mem_set hw with h | h
  ·exact hc.each w h
  ·rw [h]; exact hy
 ·rw [splice,splice_get _ _ _ hb]
  by_cases hki:k=i
  ·subst hki
   rw [List.getElem?_set_self (by omega)] at hk
   cases hk
   obtain ⟨h1,h2⟩:=hyc j y hj
   by_cases hr:off≤j∧j<off+vs.length
   ·rw [if_pos (by omega),show k*sz+j - (k*sz+off)=j - off by omega]
    exact h1 hr
   ·rw [if_neg (by omega)]
    exact hc.at_ k x j y hi (h2 hr)
  ·rw [List.getElem?_set_ne (Ne.symm hki)] at hk
   have hjl:j<sz:=by
    have:=hc.each w (List.mem_of_getElem? hk)
    rcases Nat.lt_or_ge j w.cells.length with h | h
    ·omega
    ·rw [List.getElem?_eq_none h] at hj; cases hj
   have hne:¬(i*sz+off≤k*sz+j∧k*sz+j<i*sz+off+vs.length):=by
    rintro ⟨a,b⟩
    rcases Nat.lt_or_gt_of_ne hki with h | h
    ·have:=Nat.mul_le_mul_right sz (show k+1≤i by omega)
     rw [Nat.add_mul,Nat.one_mul] at this
     omega
    ·have:=Nat.mul_le_mul_right sz (show i+1≤k by omega)
     rw [Nat.add_mul,Nat.one_mul] at this
     omega
   rw [if_neg hne]
   exact hc.at_ k w j y hk hj
theorem setT_some{l:List T}{i:Nat}{x:T}{K:List T→Option R}{r:R}(h:setT l i x K=some r) :i<l.length∧K (l.set i x)=some r:=by
 unfold setT at h
 obtain ⟨h1,h2⟩:=needC_some h
 exact ⟨of_decide_eq_true h1,h2⟩
end
end Go.Proofs.Ytpfploolkmcalaa.VM
end
section
namespace Go.Proofs.Ytpfploolkmcalaa.VM
open Go AM
set_option linter.unusedSectionVars false
set_option linter.unusedSimpArgs false
set_option linter.unusedVariables false
section
variable {F F' N:NS} {G G':GM} {st st':St} {h h':Hp} {R:Type} {z:Fz} (P:Program)
theorem okV_cells{v:V}{u:Value}(h:VR z G v u)(ho:v.cells.all okV=true) :VRs z G v.cells u.cells.toList∧oneCells u.cells.toList=true:=by
 have h1:VRs z G v.cells u.cells.toList:=by
  refine cells_ok h (fun vs e=> ?_) (fun e=> ?_)
  ·subst e; simp [V.cells,okV] at ho
  ·subst e; simp [V.cells,okV] at ho
 exact ⟨h1,okVs_ok h1 ho⟩
theorem stT_ok{s:Sm F N G st h}{id:Nat}{b:Blk}(hg:st.blks.get id=some b){i off n:Nat}{u w:Value}{x:T}(hz:Fz.le z (fz F h))(hp:VR z G (.ptr id i off) u)(hx:TR (fz F h) x w){K:Blk→Option R}{q:R}(hk:stT n b i off x K=some q) :
  ∃b' ad h',u= .pointer (some ad)∧K b'=some q∧w.cells.size=n∧(∀(R:Type) (KA:Hp→Option R),h.stC ad w.cells.toList KA=KA h')∧Step F N G st h F G ⟨st.blks.set id b',st.used⟩ h':=by
 have hcs:=tr_cells hx
 have hone:=srs_one hcs
 have hlen:w.cells.size=x.cells.length:=by rw [←Array.length_toList]; exact hcs.length.symm
 cases hp with
 | @ptrA _ _ _ r' sz _ hG=>
  obtain ⟨e,hb⟩:=s.br hg hG
  cases b with
  | arr own sz0 nn l=>
   simp only [kindOf,Gk.arr.injEq] at e
   obtain ⟨e1,e2,e3⟩:=e
   subst e1 e2 e3
   simp only [stT] at hk
   obtain ⟨h1,hk⟩:=needC_some hk
   simp only [Bool.and_true,Bool.and_eq_true,decide_eq_true_eq] at h1
   obtain ⟨h1,h2⟩:=h1
   subst h1
   rcases hb with ⟨h3,_⟩ | ⟨_,c,a1,a2,a3,a4,a5⟩
   ·cases h3
   have hrw:=a4 rfl
   have go:∀{y y':T} {o:Nat},l[i]? =some y→o=off→off+w.cells.toList.length≤sz→y'.cells.length=sz→
     (∀j t,y'.cells[j]? =some t→(off≤j∧j<off+w.cells.toList.length→∃v,w.cells.toList[j - off]? =some v∧SR (fz F h) t v)∧(¬(off≤j∧j<off+w.cells.toList.length)→y.cells[j]? =some t))→
     K (.arr true sz true (l.set i y'))=some q→∃b' ad h',Value.pointer (some ⟨r',i*sz+off,none⟩)= .pointer (some ad)∧K b'=some q∧w.cells.size=n∧(∀(R:Type) (KA:Hp→Option R),h.stC ad w.cells.toList KA=KA h')∧Step F N G st h F G ⟨st.blks.set id b',st.used⟩ h':=by
    intro y y' o hi _ hoff hy hyc hkk
    have hil:i<l.length:=by
     rcases Nat.lt_or_ge i l.length with h | h
     ·exact h
     ·rw [List.getElem?_eq_none h] at hi; cases hi
    have hmul:i*sz+sz≤l.length*sz:=by
     have:=Nat.mul_le_mul_right sz (show i+1≤l.length by omega)
     rw [Nat.add_mul,Nat.one_mul] at this
     exact this
    have hbound:i*sz+off+w.cells.toList.length≤c.cells.length:=by have:=a3.len; omega
    refine ⟨_,_,_,rfl,hkk,hlen.trans h2,fun R KA=>stC_to a1 hrw hbound hone KA, ?_⟩
    refine step_write s hg rfl hG (by simp [kindOf]) rfl a1 _ _ fun hself hle=> ?_
    exact .inr ⟨rfl,_,hself,a2,(a3.mono hle).put hi hoff hy fun j t hj=>⟨fun hr=>by
     obtain ⟨v,v1,v2⟩:=(hyc j t hj).1 hr
     exact ⟨v,v1,v2.mono hle⟩,(hyc j t hj).2⟩,fun _=>hrw,fun h=>nomatch h⟩
   cases hs:(n==sz &&off==0) <;>rw [hs] at hk <;>simp only [cond_true,cond_false] at hk
   ·obtain ⟨y,hy,hk⟩:=getT_some hk
    obtain ⟨h4,hk⟩:=needC_some hk
    simp only [Bool.and_eq_true,decide_eq_true_eq] at h4
    have hyl:=a3.each y (List.mem_of_getElem? hy)
    have hxl:x.cells.length=w.cells.toList.length:=hcs.length
    refine go hy rfl (by omega) (by rw [show (T.agg (spliceT y.cells off x.cells)).cells=spliceT y.cells off x.cells from rfl,spliceT,splice_len _ _ _ h4.1]; exact hyl) (fun j t hj=> ?_) hk
    rw [show (T.agg (spliceT y.cells off x.cells)).cells=spliceT y.cells off x.cells from rfl,spliceT,splice_get _ _ _ h4.1] at hj
    rw [←hxl]
    constructor
    ·intro hr
     rw [if_pos hr] at hj
     exact hcs.get hj
    ·intro hr
     rw [if_neg hr] at hj
     exact hj
   ·obtain ⟨hil,hk⟩:=setT_some hk
    simp only [Bool.and_eq_true,beq_iff_eq] at hs
    obtain ⟨hs1,hs2⟩:=hs
    have hxl:x.cells.length=w.cells.toList.length:=hcs.length
    refine go (y:=l[i]'hil) (List.getElem?_eq_getElem hil) rfl (by omega) (by omega) (fun j t hj=> ?_) hk
    have hjl:j<x.cells.length:=by
     rcases Nat.lt_or_ge j x.cells.length with h | h
     ·exact h
     ·rw [List.getElem?_eq_none h] at hj; cases hj
    constructor
    ·intro hr
     rw [hs2,Nat.sub_zero]
     exact hcs.get hj
    ·intro hr
     omega
  | var cs=>simp [kindOf] at e
  | av l=>simp [kindOf] at e
  | map es=>simp [kindOf] at e
  | rows sz l=>cases hk
 | ptrV hG=>
  obtain ⟨e,hb⟩:=s.br hg hG
  cases b with
  | var cs=>cases hk
  | arr own sz nn l=>simp [kindOf] at e
  | av l=>simp [kindOf] at e
  | map es=>simp [kindOf] at e
  | rows sz l=>simp [kindOf] at e
 | ptrW hG=>
  obtain ⟨e,hb⟩:=s.br hg hG
  cases b with
  | av l=>
   simp only [stT] at hk
   obtain ⟨h1,hk⟩:=needC_some hk
   have h1:=of_decide_eq_true h1
   obtain ⟨c,a1,a2,a3,a4⟩:=hb
   have hxl:x.cells.length=w.cells.toList.length:=hcs.length
   cases hs:n==1 <;>rw [hs] at hk <;>simp only [cond_true,cond_false] at hk
   ·obtain ⟨h4,hk2⟩:=needC_some hk
    simp only [Bool.and_eq_true,decide_eq_true_eq,beq_iff_eq] at h4
    obtain ⟨h5,h6⟩:=h4
    subst h5
    have hl:=a4.length
    refine ⟨_,_,_,rfl,hk2,hlen.trans h1,fun R KA=>stC_to a1 a2 (by omega) hone KA, ?_⟩
    refine step_write s hg rfl hG (by simp [kindOf,h6]) rfl a1 _ _ fun hself hle=> ?_
    refine ⟨_,hself,a2,rfl, ?_⟩
    have:splice c.cells 0 w.cells.toList=w.cells.toList:=by
     unfold splice
     rw [List.drop_of_length_le (by omega)]
     simp
    show SRs _ x.cells (splice c.cells 0 w.cells.toList)
    rw [this]
    exact hcs.imp fun _ _ hv=>hv.mono hle
   ·obtain ⟨hsc,hk⟩:=needC_some hk
    obtain ⟨hil,hk⟩:=setT_some hk
    have hx1:x.cells=[x]:=by cases x <;>first | rfl | cases hsc
    rw [hx1] at hcs
    cases hw:w.cells.toList with
    | nil=>rw [hw] at hcs; cases hcs
    | cons v vs=>
     rw [hw] at hcs
     cases hcs with
     | cons b1 b2=>
      cases b2
      have hl:=a4.length
      rw [hw] at hone
      refine ⟨_,_,_,rfl,hk,hlen.trans h1,fun R KA=>stC_to a1 a2 (by simp; omega) hone KA, ?_⟩
      refine step_write s hg rfl hG (by simp [kindOf]) rfl a1 _ _ fun hself hle=> ?_
      refine ⟨_,hself,a2,rfl, ?_⟩
      show SRs _ _ (splice c.cells off [v])
      rw [splice_set (by omega)]
      exact (a4.imp fun _ _ hv=>hv.mono hle).set off (b1.mono hle)
  | arr own sz nn l=>simp [kindOf] at e
  | var l=>simp [kindOf] at e
  | map es=>simp [kindOf] at e
  | rows sz l=>simp [kindOf] at e
theorem stB_ok(s:Sm F N G st h){id i off n:Nat}{u w:Value}{v:V}(hz:Fz.le z (fz F h))(hp:VR z G (.ptr id i off) u)(hv:VR z G v w){K:St→Option R}{q:R}(hk:stB n st id i off v K=some q) :
  ∃st' ad h' F',u= .pointer (some ad)∧K st'=some q∧w.cells.size=n∧(∀(R:Type) (KA:Hp→Option R),h.stC ad w.cells.toList KA=KA h')∧Step F N G st h F' G st' h':=by
 unfold stB at hk
 split at hk
 ·rename_i b hg
  have other:(closeF st v fun x st=>match st.blks.get id with
   | some b=>stT n b i off x fun b=>K ⟨st.blks.set id b,st.used⟩
   | none=>none)=some q→∃st' ad h' F',u= .pointer (some ad)∧K st'=some q∧w.cells.size=n∧(∀(R:Type) (KA:Hp→Option R),h.stC ad w.cells.toList KA=KA h')∧Step F N G st h F' G st' h':=by
   intro hk
   obtain ⟨x,st1,F1,h1,x1,h2⟩:=closeF_ok s hz hv hk
   split at h1
   ·rename_i b1 hg1
    obtain ⟨b',ad,h',a1,a2,a3,a4,a5⟩:=stT_ok (s:=x1.sm) hg1 (Fz.le_trans hz x1.le) hp h2 h1
    exact ⟨_,ad,h',F1,a1,a2,a3,a4,x1.trans a5⟩
   ·cases h1
  split at hk
  ·rename_i cs
   obtain ⟨h1,hk⟩:=needC_some hk
   simp only [Bool.and_eq_true,decide_eq_true_eq] at h1
   obtain ⟨⟨h1,h2⟩,h3⟩:=h1
   obtain ⟨hcs,hone⟩:=okV_cells hv h2
   have hlen:=hcs.all.length
   cases hp with
   | ptrA hG=>
    obtain ⟨e,_⟩:=s.br hg hG
    simp [kindOf] at e
   | ptrW hG=>
    obtain ⟨e,_⟩:=s.br hg hG
    simp [kindOf] at e
   | ptrV hG=>
    obtain ⟨e,c,a1,a2,a3,a4⟩:=s.br hg hG
    have hl:=a4.length
    refine ⟨_,_,_,F,rfl,hk,by rw [←Array.length_toList]; omega,fun R KA=>stC_to a1 a2 (by omega) hone KA, ?_⟩
    refine step_write s hg rfl hG (by simp only [kindOf,spliceV,splice_len _ _ _ h3]) rfl a1 _ _ fun hself hle=> ?_
    refine ⟨_,hself,a2,rfl, ?_⟩
    exact all2_splice (a4.imp fun _ _ hv=>hv.mono hle (LeG.refl _)) ((hcs.mono (Fz.le_trans hz hle) (LeG.refl _)).all) off
  ·exact other hk
 ·cases hk
end
end Go.Proofs.Ytpfploolkmcalaa.VM
end
section
namespace Go.Proofs.Ytpfploolkmcalaa.VM
open Go AM
set_option linter.unusedSectionVars false
set_option linter.unusedSimpArgs false
set_option linter.unusedVariables false
section
variable {F F' N:NS} {G G':GM} {st st':St} {h h':Hp} {R:Type} {z:Fz} (P:Program)
theorem raw_to{ad:Addr} :∀{us:List Value} {k:Nat},(∀(j:Nat) (u:Value),us[j]? =some u→h.cell (ad.add (k+j))=some u)→h.rawCells ad k us.length=some us
 | [],_,_=>rfl
 | u::us,k,hc=>by
  have h1:=hc 0 u rfl
  rw [Nat.add_zero] at h1
  rw [List.length_cons,Hp.rawCells,h1]
  simp only
  rw [raw_to (us:=us) (k:=k+1) fun j v hj=>by
   have:=hc (j+1) v (by simpa using hj)
   rw [←this]
   congr 2
   omega]
  rfl
theorem Cells.take{sz:Nat}{l:List T}{cs:List Value}(hc:Cells z sz l cs)(n:Nat) :Cells z sz (l.take n) (cs.take (n*sz)):=by
 refine ⟨?_,fun x hx=>hc.each x (List.mem_of_mem_take hx),fun i x j y hi hj=> ?_⟩
 ·rw [List.length_take,List.length_take]
  rcases Nat.le_total n l.length with h | h
  ·rw [Nat.min_eq_left h]
   exact Nat.le_min.2 ⟨Nat.le_refl _,Nat.le_trans (Nat.mul_le_mul_right _ h) hc.len⟩
  ·rw [Nat.min_eq_right h]
   exact Nat.le_min.2 ⟨Nat.mul_le_mul_right _ h,hc.len⟩
 ·rw [List.getElem?_take] at hi
  split at hi
  ·rename_i hin
   obtain ⟨v,h1,h2⟩:=hc.at_ i x j y hi hj
   refine ⟨v, ?_,h2⟩
   have hx:=hc.each x (List.mem_of_getElem? hi)
   have hjl:j<sz:=by
    rcases Nat.lt_or_ge j x.cells.length with h | h
    ·omega
    ·rw [List.getElem?_eq_none h] at hj; cases hj
   have:=Nat.mul_le_mul_right sz (show i+1≤n by omega)
   rw [Nat.add_mul,Nat.one_mul] at this
   rw [List.getElem?_take,if_pos (by omega)]
   exact h1
  ·cases hi
theorem Cells.drop{sz:Nat}{l:List T}{cs:List Value}(hc:Cells z sz l cs)(n:Nat) :Cells z sz (l.drop n) (cs.drop (n*sz)):=by
 refine ⟨?_,fun x hx=>hc.each x (List.mem_of_mem_drop hx),fun i x j y hi hj=> ?_⟩
 ·rw [List.length_drop,List.length_drop,Nat.sub_mul]
  have:=hc.len
  omega
 ·rw [List.getElem?_drop] at hi
  obtain ⟨v,h1,h2⟩:=hc.at_ (n+i) x j y hi hj
  refine ⟨v, ?_,h2⟩
  rw [List.getElem?_drop,←h1]
  congr 1
  rw [Nat.add_mul]
  omega
theorem Cells.append{sz:Nat}{l l':List T}{cs cs':List Value}(hc:Cells z sz l cs)(he:cs.length=l.length*sz)(hc':Cells z sz l' cs') :Cells z sz (l++l') (cs++cs'):=by
 refine ⟨by rw [List.length_append,List.length_append,Nat.add_mul]; have:=hc'.len; omega,fun x hx=> ?_,fun i x j y hi hj=> ?_⟩
 ·rcases List.mem_append.1 hx with h | h
  ·exact hc.each x h
  ·exact hc'.each x h
 ·rcases Nat.lt_or_ge i l.length with h | h
  ·rw [List.getElem?_append_left h] at hi
   obtain ⟨v,h1,h2⟩:=hc.at_ i x j y hi hj
   refine ⟨v, ?_,h2⟩
   rw [List.getElem?_append_left,h1]
   rcases Nat.lt_or_ge (i*sz+j) cs.length with h | h
   ·exact h
   ·rw [List.getElem?_eq_none h] at h1; cases h1
  ·rw [List.getElem?_append_right h] at hi
   obtain ⟨v,h1,h2⟩:=hc'.at_ (i - l.length) x j y hi hj
   refine ⟨v, ?_,h2⟩
   have:=Nat.mul_le_mul_right sz h
   rw [List.getElem?_append_right (by rw [he]; omega),←h1,he]
   congr 1
   rw [Nat.sub_mul]
   omega
theorem cells_nil(sz:Nat) :Cells z sz [] []:=⟨by simp,fun _ h=>(nomatch h),fun i x j y hi=>by simp at hi⟩
theorem Cells.exact{sz:Nat}{l:List T}{cs:List Value}(hc:Cells z sz l cs) :Cells z sz l (cs.take (l.length*sz))∧(cs.take (l.length*sz)).length=l.length*sz:=by
 have h:=hc.take l.length
 rw [List.take_length] at h
 exact ⟨h,by rw [List.length_take]; exact Nat.min_eq_left hc.len⟩
theorem Cells.one{sz:Nat}{l:List T}{cs:List Value}(hc:Cells z sz l cs)(he:cs.length=l.length*sz) :oneCells cs=true:=by
 unfold oneCells
 rw [List.all_eq_true]
 intro v hv
 obtain ⟨k,hk⟩:=List.mem_iff_getElem?.1 hv
 have hkl:k<l.length*sz:=by
  rw [←he]
  rcases Nat.lt_or_ge k cs.length with h | h
  ·exact h
  ·rw [List.getElem?_eq_none h] at hk; cases hk
 have hsz:0<sz:=by
  rcases Nat.eq_zero_or_pos sz with h | h
  ·subst h; simp at hkl
  ·exact h
 have hi:k / sz<l.length:=by rw [Nat.div_lt_iff_lt_mul hsz]; exact hkl
 have hx:=hc.each _ (List.getElem_mem hi)
 have hj:k % sz<(l[k / sz]'hi).cells.length:=by rw [hx]; exact Nat.mod_lt _ hsz
 obtain ⟨v',h1,h2⟩:=hc.at_ (k / sz) _ (k % sz) _ (List.getElem?_eq_getElem hi) (List.getElem?_eq_getElem hj)
 rw [Nat.mul_comm,Nat.div_add_mod,hk] at h1
 cases h1
 exact sr_okCell h2
theorem contC_ok(s:Sm F N G st h)(hz:Fz.le z (fz F h)){v:V}{u:Value}(hv:VR z G v u){K:Nat→Bool→List T→Option R}{q:R}(hk:contC st.blks v K=some q) :
  ∃sz nn l a c cs,K sz nn l=some q∧u= .slice a l.length c∧(nn=false↔a=none)∧Cells (fz F h) sz l cs∧cs.length=l.length*sz∧(a=none→l=[])∧∀(ad:Addr),a=some ad→∀(j:Nat) (w:Value),cs[j]? =some w→h.cell (ad.add j)=some w:=by
 rcases contC_some hk with ⟨sz,nn,l,rfl,h1⟩ | ⟨id,own,sz,nn,l,rfl,h0,h1⟩
 ·have hr:=vr_t hv
  cases hr with
  | one hr=>
   cases hr with
   | nil=>exact ⟨sz,false,[],none,0,[],h1,rfl,by simp,cells_nil sz,by simp,fun _=>rfl,fun _ h=>nomatch h⟩
   | @list _ _ a c f hs hn hc he=>
    refine ⟨sz,true,l,some a,c,(List.range (l.length*sz)).map f,h1,rfl,by simp,⟨by simp,hn,fun i x j y hi hj=> ?_⟩,by simp,fun h=>(nomatch h), ?_⟩
    ·refine ⟨f (i*sz+j), ?_,(he i x j y hi hj).mono hz⟩
     have hx:=hn x (List.mem_of_getElem? hi)
     have hil:i<l.length:=by
      rcases Nat.lt_or_ge i l.length with h | h
      ·exact h
      ·rw [List.getElem?_eq_none h] at hi; cases hi
     have hjl:j<sz:=by
      rcases Nat.lt_or_ge j x.cells.length with h | h
      ·omega
      ·rw [List.getElem?_eq_none h] at hj; cases hj
     have:=Nat.mul_le_mul_right sz (show i+1≤l.length by omega)
     rw [Nat.add_mul,Nat.one_mul] at this
     rw [List.getElem?_map,List.getElem?_range (by omega)]
     rfl
    ·intro ad had j w hj
     cases had
     rw [List.getElem?_map] at hj
     obtain ⟨k,hk1,hk2⟩:=Option.map_eq_some_iff.1 hj
     have hkl:j<l.length*sz:=by
      rcases Nat.lt_or_ge j (l.length*sz) with h | h
      ·exact h
      ·rw [List.getElem?_eq_none (by simpa using h)] at hk1; cases hk1
     rw [List.getElem?_range hkl] at hk1
     cases hk1
     subst hk2
     exact (hz.cell _ _ (hc j hkl)).2
 ·rcases s.arr h0 hv with ⟨rfl,rfl,rfl⟩ | ⟨rfl,r,c,e1,rfl,h3,h4,h5,h6,h7⟩
  ·exact ⟨sz,false,[],none,0,[],h1,rfl,by simp,cells_nil sz,by simp,fun _=>rfl,fun _ h=>nomatch h⟩
  ·refine ⟨sz,true,l,_,_,c.cells.take (l.length*sz),h1,rfl,by simp,h5.exact.1,h5.exact.2,fun h=>(nomatch h), ?_⟩
   intro ad had j w hj
   cases had
   rw [add_none,Nat.zero_add,cell_of h3]
   rw [List.getElem?_take] at hj
   split at hj
   ·exact hj
   ·cases hj
theorem srcV_ok(s:Sm F N G st h)(hz:Fz.le z (fz F h)){v:V}{u:Value}(hv:VR z G v u){n:Nat}{str:Bool}{K:List T→Option R}{q:R}(hk:srcV st.blks n v str K=some q) :
  ∃l cs,K l=some q∧(Cells (fz F h) n l cs∧cs.length=l.length*n)∧((str=false∧∃a c,u= .slice a l.length c)∨(str=true∧∃b:ByteArray,u= .string b∧l.length=b.size))∧
   ∀(m:Nat) (R:Type) (KA:List Value→Option R),m≤l.length→srcC h n m u KA=KA (cs.take (m*n)):=by
 unfold srcV at hk
 cases str with
 | false=>
  simp only [cond_false] at hk
  obtain ⟨sz,nn,l,a,c,cs,h1,rfl,h3,h4,h4e,h5,h6⟩:=contC_ok s hz hv hk
  obtain ⟨h7,h1⟩:=needC_some h1
  simp only [Bool.or_eq_true,beq_iff_eq,List.isEmpty_iff] at h7
  have hcs:Cells (fz F h) n l cs∧cs.length=l.length*n:=by
   rcases h7 with rfl | rfl
   ·exact ⟨h4,h4e⟩
   ·have:=h4e
    simp only [List.length_nil,Nat.zero_mul] at this
    rw [List.length_eq_zero_iff.1 this]
    exact ⟨cells_nil n,by simp⟩
  refine ⟨l,cs,h1,hcs, .inl ⟨rfl,a,c,rfl⟩,fun m R KA hm=> ?_⟩
  unfold srcC
  cases a with
  | none=>
   have:=h5 rfl
   subst this
   have hl:=hcs.2
   simp only [List.length_nil,Nat.zero_mul] at hl
   rw [List.length_eq_zero_iff.1 hl]
   simp
  | some ad=>
   simp only
   have hlen:(cs.take (m*n)).length=m*n:=by
    rw [List.length_take,hcs.2]
    exact Nat.min_eq_left (Nat.mul_le_mul_right _ hm)
   have:=raw_to (h:=h) (ad:=ad) (us:=cs.take (m*n)) (k:=0) fun j w hj=>by
    rw [Nat.zero_add]
    rw [List.getElem?_take] at hj
    split at hj
    ·exact h6 ad rfl j w hj
    ·cases hj
   rw [hlen] at this
   rw [this]
 | true=>
  simp only [cond_true] at hk
  unfold asStrV at hk
  split at hk
  ·split at hk
   ·rename_i b
    obtain ⟨h1,hk⟩:=needC_some hk
    have h1:n=1:=by simpa using h1
    subst h1
    have hr:=vr_t hv
    cases hr with
    | one hr=>
     cases hr
     have hlen:(b.data.toList.map fun c=>T.int .u8 (c.toNat:Int)).length=b.size:=by simp
     refine ⟨_,b.data.toList.map fun x=>Value.int .u8 x.toNat,hk,⟨⟨by simp,fun x hx=> ?_,fun i x j y hi hj=> ?_⟩,by simp⟩, .inr ⟨rfl,b,rfl,hlen⟩,fun m R KA hm=> ?_⟩
     ·obtain ⟨c,_,rfl⟩:=List.mem_map.1 hx
      rfl
     ·rw [List.getElem?_map] at hi
      obtain ⟨c,hc1,rfl⟩:=Option.map_eq_some_iff.1 hi
      cases j with
      | zero=>
       simp only [T.cells,List.getElem?_cons_zero,Option.some.injEq] at hj
       subst hj
       refine ⟨.int .u8 c.toNat, ?_, .int _ _⟩
       rw [Nat.mul_one,Nat.add_zero,List.getElem?_map,hc1]
       rfl
      | succ j=>simp [T.cells] at hj
     ·unfold srcC needC
      simp only [decide_true,cond_true,Nat.mul_one,List.map_take]
   ·cases hk
  ·cases hk
theorem set_same{b:Blk}{id:Nat} :∀{bs:Bs},bs.get id=some b→bs.set id b=bs
 | [],h=>rfl
 | (i,c)::bs,h=>by
  simp only [Bs.get,Bs.set] at h ⊢
  cases hi:i==id <;>rw [hi] at h <;>simp only [cond_true,cond_false] at h ⊢
  ·rw [set_same h]
  ·cases h; rfl
theorem Cells.weak{sz n:Nat}{l:List T}{cs:List Value}(hc:Cells z sz l (cs.take n)) :Cells z sz l cs:=by
 refine ⟨?_,hc.each,fun i x j y hi hj=> ?_⟩
 ·have:=hc.len
  rw [List.length_take] at this
  exact Nat.le_trans this (Nat.min_le_right _ _)
 ·obtain ⟨v,h1,h2⟩:=hc.at_ i x j y hi hj
  rw [List.getElem?_take] at h1
  split at h1
  ·exact ⟨v,h1,h2⟩
  ·cases h1
theorem step_cut(s:Sm F N G st h){id id' sz n:Nat}{l:List T}{r:Nat}{k:Gk}(hg:st.blks.get id=some (.arr true sz true l))(hG:G id=some ⟨r,k⟩)(h1:500≤id')(h2:id'∉st.used) :
  Step F N G st h F (setG G id' ⟨r, .arr sz true (l.take n).length⟩) ⟨(id', .arr true sz true (l.take n))::st.blks.del id,id'::st.used⟩ h:=by
 have hle:=setG_le s h1 h2 ⟨r, .arr sz true (l.take n).length⟩
 have hget:∀q c,Bs.get ((id', .arr true sz true (l.take n))::st.blks.del id) q=some c→(q=id'∧c= .arr true sz true (l.take n))∨(q ≠id'∧q ≠id∧st.blks.get q=some c):=by
  intro q c hq
  rw [get_cons] at hq
  split at hq
  ·rename_i e; cases hq; exact .inl ⟨e,rfl⟩
  ·rename_i e
   rw [get_del] at hq
   split at hq
   ·cases hq
   ·rename_i e2; exact .inr ⟨e,e2,hq⟩
 have hold:∀q k,q ≠id'→setG G id' ⟨r, .arr sz true (l.take n).length⟩ q=some k→G q=some k:=fun q k hq he=>by
  unfold setG at he
  rw [if_neg hq] at he
  exact he
 have hbr:BR F N G h r (.arr true sz true (l.take n)):=by
  obtain ⟨_,hb⟩:=s.br hg hG
  rcases hb with ⟨h0,_⟩ | ⟨_,c0,k1,k2,k3,k4,k5⟩
  ·cases h0
  ·exact .inr ⟨rfl,c0,k1,k2,(k3.take n).weak,k4,k5⟩
 refine Step.same s hle ?_ ?_ ?_ ?_ (fun q b hq hrw=>by
  rcases hget q b hq with ⟨_,rfl⟩ | ⟨_,_,hq⟩
  ·cases hrw
  ·exact hq)
 ·intro q b hq
  rcases hget q b hq with ⟨rfl,rfl⟩ | ⟨n1,n2,hq⟩
  ·refine ⟨⟨r,setG_self _ _ _,hbr.keep (fun _=>⟨rfl,rfl⟩) (Ext.refl _ _ _) (fun _ h=>h) hle⟩,fun hre=>⟨id,_,hg,rfl,fun _=>rfl,fun r' k' hk=> ?_⟩⟩
   rw [setG_self] at hk
   cases hk
   exact ⟨k,hG⟩
  ·obtain ⟨r,hr,hbr⟩:=s.blk q b hq
   exact ⟨⟨r,hle _ _ hr,hbr.keep (fun _=>⟨rfl,rfl⟩) (Ext.refl _ _ _) (fun _ h=>h) hle⟩,fun hre=>⟨q,b,hq,hre,fun h=>h,fun r k hk=>⟨k,hold _ _ n1 hk⟩⟩⟩
 ·intro id1 b1 id2 b2 r' k1 k2 g1 g2 r1 r2 e1 e2
  rcases hget _ _ g1 with ⟨m1,p1⟩ | ⟨m1,m1',q1⟩ <;>rcases hget _ _ g2 with ⟨m2,p2⟩ | ⟨m2,m2',q2⟩
  ·exact m1.trans m2.symm
  ·rw [m1,setG_self] at e1
   cases e1
   exact absurd (s.inj _ _ _ _ _ _ _ q2 hg r2 rfl (hold _ _ m2 e2) hG) m2'
  ·rw [m2,setG_self] at e2
   cases e2
   exact absurd (s.inj _ _ _ _ _ _ _ q1 hg r1 rfl (hold _ _ m1 e1) hG) m1'
  ·exact s.inj _ _ _ _ _ _ _ q1 q2 r1 r2 (hold _ _ m1 e1) (hold _ _ m2 e2)
 ·intro q g hq
  by_cases e:q=id'
  ·subst e; exact .inr (List.mem_cons_self ..)
  ·exact (s.gUsed q g (hold _ _ e hq)).imp (fun h=>h) (List.mem_cons_of_mem _)
 ·intro q b hq hlt
  rcases hget q b hq with ⟨rfl,_⟩ | ⟨_,_,hq⟩
  ·omega
  ·exact ⟨b,hq⟩
theorem step_trunc(s:Sm F N G st h){id sz:Nat}{l:List T}{r:Nat}{k:Gk}(hg:st.blks.get id=some (.arr true sz true l))(hG:G id=some ⟨r,k⟩){c:AM.Blk}(hc:h.new r=some c)(hlt:l.length*sz<c.cells.length) :
  Step F N G st h F G st (h.write r {c with cells:=c.cells.take (l.length*sz)} 0 [])∧(c.cells.take (l.length*sz)).length=l.length*sz∧Cells (fz F h) sz l (c.cells.take (l.length*sz)):=by
 have hset:st.blks.set id (.arr true sz true l)=st.blks:=set_same hg
 obtain ⟨e,hbr⟩:=s.br hg hG
 rcases hbr with ⟨h0,_⟩ | ⟨_,c0,k1,k2,k3,k4,k5⟩
 ·cases h0
 rw [hc] at k1
 cases k1
 obtain ⟨a1,a2,a3⟩:=s.apart id _ r k hg rfl hG
 have hsp:splice (c.cells.take (l.length*sz)) 0 []=c.cells.take (l.length*sz):=by unfold splice; simp
 have hself:(h.write r {c with cells:=c.cells.take (l.length*sz)} 0 []).new r=some {c with cells:=c.cells.take (l.length*sz),par:=[]}:=by
  rw [write_new,if_pos rfl]
  simp only [hsp]
 have x:Ext F N h (h.write r {c with cells:=c.cells.take (l.length*sz)} 0 []):=by
  refine ⟨rfl,rfl,Nat.le_refl _,fun q hq=>⟨?_,rfl⟩,fun q hq=> ?_⟩
  ·rw [write_new,if_neg (fun e=>by subst e; exact hq.elim a1 a2),if_neg (fun hm=> ?_)]
   obtain ⟨_,b1,b2,_⟩:=a3 c hc q (by simpa using hm)
   exact hq.elim b1 b2
  ·have hlt:=(s.ok.new _ _ hc).1
   rw [write_new,if_neg (by omega)]
   split
   ·cases hq2:h.new q with
    | none=>rfl
    | some d=>have:=(s.ok.new _ _ hq2).1; omega
   ·rfl
 refine ⟨?_,k3.exact.2,k3.exact.1⟩
 have:=step_upd s hg (b':= .arr true sz true l) rfl hG rfl rfl (ok_write s.ok hc 0 []) x rfl ?_ ?_ ?_ (.inr ⟨rfl,_,hself,k2,k3.exact.1.mono (x.fz fun _ h=>h),k4,fun h=>nomatch h⟩)
 ·rw [hset] at this
  exact this
 ·intro id2 b2 r2 k2 hne g2 re2 e2
  refine ⟨?_,rfl⟩
  rw [write_new,if_neg (fun e=>by subst e; exact hne (s.inj _ _ _ _ _ _ _ g2 hg re2 rfl e2 hG)),if_neg (fun hm=> ?_)]
  obtain ⟨_,_,_,b3⟩:=a3 c hc r2 (by simpa using hm)
  exact b3 id2 b2 k2 g2 re2 e2
 ·intro c' h' q hq
  rw [hself] at h'
  cases h'
  cases hq
 ·intro L h1 h2 h3
  have:=fold_min_ge c.par r h2 (h3 c hc)
  show L≤min h.low (c.par.foldl min r)
  omega
def realK :Gk→Bool
 | .arr _ nn _=>nn
 | _=>true
def AppFr(G:GM)(h h':Hp)(sl:V) :Prop:=∀r',r'<h.next→(∀id r k,sl= .buf id→G id=some ⟨r,k⟩→realK k=true→r' ≠r∧∀b,h.new r=some b→r'∉b.par)→h'.new r'=h.new r'
theorem AppFr.same{G:GM}{h:Hp}{sl:V} :AppFr G h h sl:=fun _ _ _=>rfl
theorem AppFr.new{G:GM}{h:Hp}{sl:V}(cs:List Value)(sz:Nat)(par:List Nat) :AppFr G h (h.alloc cs sz par) sl:=fun r' hr _=>by rw [alloc_new,if_neg (by omega)]
theorem appendV_ok(s:Sm F N G st h)(hz:Fz.le z (fz F h)){id' n bytes:Nat}{sl:V}{u:Value}(hv:VR z G sl u){xs:List T}{vs:List Value}(hvs:Cells (fz F h) n xs vs)(hvl:vs.length=xs.length*n){K:V→St→Option R}{q:R}(hk:appendV st id' n bytes sl xs K=some q) :
  ∃v st' F' G' a m c a' m' c' h',u= .slice a m c∧K v st'=some q∧(∀(R:Type) (KA:Option Addr→Nat→Nat→Hp→Option R),growT h n bytes a m c xs.length vs KA=KA a' m' c' h')∧Step F N G st h F' G' st' h'∧VR (fz F' h') G' v (.slice a' m' c')∧AppFr G h h' sl:=by
 have hone:=hvs.one hvl
 unfold appendV at hk
 split at hk
 ·split at hk
  ·rename_i sz nn l
   obtain ⟨h1,hk2⟩:=needC_some hk
   simp only [Bool.and_eq_true,Bool.not_eq_true',decide_eq_true_eq,List.isEmpty_iff] at h1
   obtain ⟨⟨⟨h1,h2⟩,h3⟩,h4⟩:=h1
   subst h1 h2
   obtain ⟨i1,i2,hk3⟩:=mint_some hk2
   cases vr_t hv with
   | one hr=>
    cases hr
    cases hx:xs with
    | nil=>
     subst hx
     refine ⟨_,_,F,_,none,0,0,none,0,0,h,rfl,hk3,fun R KA=> ?_,step_nil s n i1 i2, .bufNil (setG_self _ _ _), .same⟩
     unfold growT
     rw [prepG_none]
     unfold growT0 needC
     simp
    | cons x xs'=>
     have hne:xs ≠[]:=by rw [hx]; exact List.cons_ne_nil _ _
     have hpos:0<xs.length:=List.length_pos_iff.2 hne
     rw [←hx]
     have he:(!xs.isEmpty)=true:=by rw [hx]; rfl
     rw [he] at hk3
     have hst:Step F N G st h F (setG G id' ⟨h.next, .arr n true xs.length⟩) ⟨(id', .arr true n true xs)::st.blks,id'::st.used⟩ (h.alloc vs n []):=by
      have x:Ext F N h (h.alloc vs n []):=⟨rfl,rfl,Nat.le_succ _,fun r hr=>⟨by have:=s.fLt r hr; rw [alloc_new,if_neg (by omega)],rfl⟩,fun r hr=>by have:=s.ok.next; rw [alloc_new,if_neg (by omega)]⟩
      refine step_new s i1 i2 (b:= .arr true n true xs) (ok_alloc s.ok _ _ _) x (fun r hr=>⟨by rw [alloc_new,if_neg (by omega)],rfl⟩) (fun c hc=> ?_) rfl rfl ?_ rfl
      ·rw [alloc_at] at hc; cases hc; rfl
      ·exact .inr ⟨rfl,_,alloc_at h vs n [],rfl,hvs.mono (x.fz fun _ h=>h),fun _=>rfl,fun h=>nomatch h⟩
     refine ⟨_,_,F,_,none,0,0,some ⟨h.next,0,none⟩,xs.length,0,_,rfl,hk3,fun R KA=> ?_,hst, .buf (setG_self _ _ _), .new _ _ _⟩
     have e0:decide (xs.length=0)=false:=decide_eq_false (by omega)
     unfold growT
     rw [prepG_none]
     unfold growT0 needC
     simp [e0,h3,h4,hvl,hone,hne]
  ·cases hk
 ·rename_i id
  split at hk
  ·rename_i b hg
   split at hk
   ·rename_i own sz nn l
    obtain ⟨h1,hk2⟩:=needC_some hk
    simp only [Bool.and_eq_true,beq_iff_eq,decide_eq_true_eq] at h1
    obtain ⟨⟨⟨h1,h2⟩,h3⟩,h4⟩:=h1
    subst h1 h2
    obtain ⟨i1,i2,hk3⟩:=mint_some hk2
    rcases s.arr hg hv with ⟨rfl,rfl,rfl⟩ | ⟨rfl,r,c,e1,rfl,h5,h6,h7,h8,_⟩
    ·have sd:=step_del s id
     simp only [Bool.false_or,List.nil_append] at hk3
     cases hx:xs with
     | nil=>
      subst hx
      refine ⟨_,_,F,_,none,0,0,none,0,0,h,rfl,hk3,fun R KA=> ?_,sd.trans (step_nil sd.sm sz i1 i2), .bufNil (setG_self _ _ _), .same⟩
      unfold growT
      rw [prepG_none]
      unfold growT0 needC
      simp
     | cons x xs'=>
      have hne:xs ≠[]:=by rw [hx]; exact List.cons_ne_nil _ _
      have hpos:0<xs.length:=List.length_pos_iff.2 hne
      rw [←hx]
      have he:(!xs.isEmpty)=true:=by rw [hx]; rfl
      rw [he] at hk3
      have hst:Step F N G ⟨st.blks.del id,st.used⟩ h F (setG G id' ⟨h.next, .arr sz true xs.length⟩) ⟨(id', .arr true sz true xs)::st.blks.del id,id'::st.used⟩ (h.alloc vs sz []):=by
       have x:Ext F N h (h.alloc vs sz []):=⟨rfl,rfl,Nat.le_succ _,fun r hr=>⟨by have:=s.fLt r hr; rw [alloc_new,if_neg (by omega)],rfl⟩,fun r hr=>by have:=s.ok.next; rw [alloc_new,if_neg (by omega)]⟩
       refine step_new sd.sm i1 i2 (b:= .arr true sz true xs) (ok_alloc s.ok _ _ _) x (fun r hr=>⟨by rw [alloc_new,if_neg (by omega)],rfl⟩) (fun c hc=> ?_) rfl rfl ?_ rfl
       ·rw [alloc_at] at hc; cases hc; rfl
       ·exact .inr ⟨rfl,_,alloc_at h vs sz [],rfl,hvs.mono (x.fz fun _ h=>h),fun _=>rfl,fun h=>nomatch h⟩
      refine ⟨_,_,F,_,none,0,0,some ⟨h.next,0,none⟩,xs.length,0,_,rfl,hk3,fun R KA=> ?_,sd.trans hst, .buf (setG_self _ _ _), .new _ _ _⟩
      have e0:decide (xs.length=0)=false:=decide_eq_false (by omega)
      simp only [List.length_nil,Nat.zero_add] at h3
      unfold growT
      rw [prepG_none]
      unfold growT0 needC
      simp [e0,h3,h4,hvl,hone,hne]
    ·simp only [Bool.true_or] at hk
     have hb:=(s.ok.new _ _ h5).1
     cases hx:xs with
     | nil=>
      subst hx
      rw [List.append_nil] at hk3
      refine ⟨_,_,F,_,some ⟨r,0,none⟩,l.length,0,some ⟨r,0,none⟩,l.length,0,h,rfl,hk3,fun R KA=> ?_,step_name s hg e1 i1 i2, .buf (setG_self _ _ _), .same⟩
      unfold growT
      rw [List.length_nil,prepG_zero]
      unfold growT0 needC
      have:decide (r<h.base)=false:=decide_eq_false (by omega)
      simp [this]
     | cons x xs'=>
      have hne:xs ≠[]:=by rw [hx]; exact List.cons_ne_nil _ _
      have hpos:0<xs.length:=List.length_pos_iff.2 hne
      rw [←hx]
      have e0:decide (xs.length=0)=false:=decide_eq_false (by omega)
      rcases Nat.lt_or_ge (l.length*sz) c.cells.length with hlt | hge
      ·-- what stands behind is given up
       have hcut:=step_trunc s hg e1 h5 hlt
       have hcs:=(hcut.2.2.mono hcut.1.le).append hcut.2.1 (hvs.mono hcut.1.le)
       have hone2:=hcut.2.2.one hcut.2.1
       have hnew:(h.write r {c with cells:=c.cells.take (l.length*sz)} 0 []).new r=some {c with cells:=c.cells.take (l.length*sz),par:=[]}:=by
        rw [write_new,if_pos rfl]
        unfold splice
        simp
       refine ⟨_,_,F,_,some ⟨r,0,none⟩,l.length,0,some ⟨h.next,0,none⟩,(l++xs).length,0,_,rfl,hk3,fun R KA=> ?_,hcut.1.trans (step_grow hcut.1.sm hg e1 hnew hcs i1 i2), .buf (setG_self _ _ _),fun r' hr' hap=> ?_⟩
       rotate_left
       ·obtain ⟨n1,n2⟩:=hap id r _ rfl e1 rfl
        have n3:=n2 c h5
        have n4:r' ≠h.next:=by omega
        refine (alloc_new _ _ _ _ _).trans ((if_neg n4).trans ?_)
        rw [seal_new,if_neg n1,write_new,if_neg n1,if_neg n3]
       unfold growT
       rw [prepG_cut (ad:=⟨r,0,none⟩) hpos h5 (h8 rfl) (by simpa using hlt)]
       have e5:(0+l.length*sz)=l.length*sz:=Nat.zero_add _
       unfold growT0 needC
       simp only [e5,hnew]
       simp [e0,h3,h4,hvl,hone,hne,h6,h8,hcut.2.1,hone2,List.length_append]
       rfl
      ·have h7e:c.cells.length=l.length*sz:=Nat.le_antisymm hge h7.len
       have hcs:=h7.append h7e hvs
       refine ⟨_,_,F,_,some ⟨r,0,none⟩,l.length,0,some ⟨h.next,0,none⟩,(l++xs).length,0,_,rfl,hk3,fun R KA=> ?_,step_grow s hg e1 h5 hcs i1 i2, .buf (setG_self _ _ _),fun r' hr' hap=> ?_⟩
       rotate_left
       ·obtain ⟨n1,_⟩:=hap id r _ rfl e1 rfl
        have n4:r' ≠h.next:=by omega
        refine (alloc_new _ _ _ _ _).trans ((if_neg n4).trans ?_)
        rw [seal_new,if_neg n1]
       unfold growT
       rw [prepG_full (b:=c) h5 (by show 0+_=_; omega)]
       unfold growT0 needC
       simp [e0,h3,h4,hvl,hone,hne,h5,h6,h8,h7e,h7.one h7e,List.length_append]
   ·cases hk
  ·cases hk
 ·cases hk
/-! ### maps -/
theorem keyR_look{x k:T}{u w:Value}(h1:keyR x u)(h2:keyR k w) :keyB u w=keyT x k:=by
 rcases h1 with ⟨k1,n1,rfl,rfl⟩ | ⟨s1,rfl,rfl⟩ <;>rcases h2 with ⟨k2,n2,rfl,rfl⟩ | ⟨s2,rfl,rfl⟩ <;>rfl
theorem lookT_ok{x:T}{u:Value}(hx:keyR x u) :∀{es:List (T×T)} {es':List (Value×Value)},All2 (fun (x:T×T) (y:Value×Value)=>keyR x.1 y.1∧TR z x.2 y.2) es es'→
  (∀r,lookT es x=some (some r)→∃r',keyLook es' u=some (some r')∧TR z r r')∧(lookT es x=some none→keyLook es' u=some none)
 | [],[], .nil=>⟨fun r h=>(by cases h),fun _=>rfl⟩
 | (k,v)::es,(k',v')::es', .cons ⟨h1,h2⟩ hs=>by
  obtain ⟨i1,i2⟩:=lookT_ok hx hs
  have hb:=keyR_look hx h1
  simp only at hb
  constructor
  ·intro r hr
   simp only [lookT,keyLook,hb] at hr ⊢
   cases hkk:keyT x k with
   | none=>rw [hkk] at hr; cases hr
   | some b=>
    rw [hkk] at hr
    cases b with
    | true=>cases hr; exact ⟨v',rfl,h2⟩
    | false=>exact i1 r hr
  ·intro hr
   simp only [lookT,keyLook,hb] at hr ⊢
   cases hkk:keyT x k with
   | none=>rw [hkk] at hr; cases hr
   | some b=>
    rw [hkk] at hr
    cases b with
    | true=>cases hr
    | false=>exact i2 hr
theorem putT_ok{x y:T}{u w:Value}(hx:keyR x u)(hy:TR z y w) :∀{es:List (T×T)} {es':List (Value×Value)},All2 (fun (x:T×T) (y:Value×Value)=>keyR x.1 y.1∧TR z x.2 y.2) es es'→
  All2 (fun (x:T×T) (y:Value×Value)=>keyR x.1 y.1∧TR z x.2 y.2) (putT es x y) (keyPut es' u w)
 | [],[], .nil=> .cons ⟨hx,hy⟩ .nil
 | (k,v)::es,(k',v')::es', .cons ⟨h1,h2⟩ hs=>by
  have hb:=keyR_look hx h1
  simp only at hb
  simp only [putT,keyPut,hb]
  cases keyT x k with
  | none=>exact .cons ⟨h1,h2⟩ (putT_ok hx hy hs)
  | some b=>cases b with
   | true=>exact .cons ⟨hx,hy⟩ hs
   | false=>exact .cons ⟨h1,h2⟩ (putT_ok hx hy hs)
theorem dropT_ok{x:T}{u:Value}(hx:keyR x u) :∀{es:List (T×T)} {es':List (Value×Value)},All2 (fun (x:T×T) (y:Value×Value)=>keyR x.1 y.1∧TR z x.2 y.2) es es'→
  All2 (fun (x:T×T) (y:Value×Value)=>keyR x.1 y.1∧TR z x.2 y.2) (dropT es x) (keyDrop es' u)
 | [],[], .nil=> .nil
 | (k,v)::es,(k',v')::es', .cons ⟨h1,h2⟩ hs=>by
  have hb:=keyR_look hx h1
  simp only at hb
  simp only [dropT,keyDrop,hb]
  cases keyT x k with
  | none=>exact .cons ⟨h1,h2⟩ (dropT_ok hx hs)
  | some b=>cases b with
   | true=>exact hs
   | false=>exact .cons ⟨h1,h2⟩ (dropT_ok hx hs)
theorem mapC_ok(s:Sm F N G st h){m:V}{u:Value}(hv:VR z G m u){K:Nat→List (T×T)→Option R}{q:R}(hk:mapC st.blks m K=some q) :
  ∃id es r es',st.blks.get id=some (.map es)∧G id=some ⟨r, .map⟩∧K id es=some q∧u= .map (some r)∧h.maps r=some es'∧All2 (fun (x:T×T) (y:Value×Value)=>keyR x.1 y.1∧TR (fz F h) x.2 y.2) es es':=by
 unfold mapC at hk
 split at hk
 ·rename_i id
  split at hk
  ·rename_i b hg
   split at hk
   ·rename_i es
    cases hv with
    | map hG=>
     obtain ⟨_,es',h1,h2⟩:=s.br hg hG
     exact ⟨id,es,_,es',hg,hG,hk,rfl,h1,h2⟩
   ·cases hk
  ·cases hk
 ·cases hk
theorem keyV_ok{x:V}{u:Value}(hv:VR z G x u){kt:TypeId}{K:T→Option R}{q:R}(hk:keyV x (fun k=>needC (keyKindT P kt k) fun _=>K k)=some q) :∃k,K k=some q∧keyR k u∧keyKind P kt u=true:=by
 unfold keyV at hk
 split at hk
 ·rename_i k
  obtain ⟨h1,h2⟩:=needC_some hk
  refine ⟨k,h2, ?_⟩
  unfold keyKindT at h1
  unfold keyKind
  split at h1
  ·rename_i hu
   cases vr_t hv with
   | one hr=>
    cases hr
    rw [hu]
    exact ⟨.inl ⟨_,_,rfl,rfl⟩,h1⟩
  ·rename_i hu
   cases vr_t hv with
   | one hr=>
    cases hr
    rw [hu]
    exact ⟨.inr ⟨_,rfl,rfl⟩,rfl⟩
  ·cases h1
 ·cases hk
end
end Go.Proofs.Ytpfploolkmcalaa.VM
end
section
namespace Go.Proofs.Ytpfploolkmcalaa.VM
open Go AM
set_option linter.unusedSectionVars false
set_option linter.unusedSimpArgs false
set_option linter.unusedVariables false
section
variable {F F' N:NS} {G G':GM} {st st':St} {h h':Hp} {R:Type} {z:Fz} (P:Program)
theorem const1_ok{v:Value}(hp:plain1 v=true) :VR z G (const1 v) v:=by
 unfold const1
 split
 ·exact .t (.int _ _)
 ·exact .t (.bool _)
 ·exact .t (.str _)
 ·rename_i a n c
  cases a with
  | none=>
   simp only [plain1] at hp
   simp only [hp,cond_true]
   simp only [Bool.and_eq_true,beq_iff_eq] at hp
   obtain ⟨rfl,rfl⟩:=hp
   exact .t (.nil 0)
  | some a=>cases hp
 ·rw [hp]
  exact .con hp
theorem consts_ok :∀{vs:List Value},vs.all plain1=true→VRs z G (vs.map const1) vs
 | [],_=> .nil
 | v::vs,h=>by
  simp only [List.all_cons,Bool.and_eq_true] at h
  exact .cons (const1_ok h.1) (consts_ok h.2)
theorem constV_ok{v:Value}(hp:plainC v=true) :VR z G (constV v) v:=by
 unfold constV
 split
 ·exact aggV_ok (consts_ok hp)
 ·rename_i vs
  cases hv:vs.isEmpty
  ·exact .junk _
  ·have:vs= #[]:=by simpa using hv
   subst this
   exact .tup .nil
 ·rename_i h1 h2
  refine const1_ok ?_
  unfold plainC at hp
  split at hp
  ·exact absurd rfl (h1 _)
  ·exact absurd rfl (h2 _)
  ·exact hp
theorem const1To_ok{p:TP1}{v:Value}(hp:plain1 v=true) :VR z G (const1To p v) v:=by
 unfold const1To
 split
 ·rename_i n c
  simp only [plain1] at hp
  simp only [hp,cond_true]
  simp only [Bool.and_eq_true,beq_iff_eq] at hp
  obtain ⟨rfl,rfl⟩:=hp
  exact .t (.nil _)
 ·exact const1_ok hp
theorem constsTo_ok :∀{ps:List TP1} {vs:List Value},vs.all plain1=true→VRs z G (constsTo ps vs) vs
 | [],vs,h=>by unfold constsTo; exact consts_ok h
 | p::ps,[],h=> .nil
 | p::ps,v::vs,h=>by
  simp only [List.all_cons,Bool.and_eq_true] at h
  exact .cons (const1To_ok h.1) (constsTo_ok h.2)
theorem constTo_ok{p:TP}{v:Value}(hp:plainC v=true) :VR z G (constTo p v) v:=by
 unfold constTo
 split
 ·split
  ·exact constV_ok (v:= .agg _) hp
  ·exact constV_ok (v:= .tuple _) hp
  ·rename_i h1 h2
   refine const1To_ok ?_
   unfold plainC at hp
   split at hp
   ·exact absurd rfl (h1 _)
   ·exact absurd rfl (h2 _)
   ·exact hp
 ·split
  ·exact aggV_ok (constsTo_ok hp)
  ·exact constV_ok hp
def EnvR(z:Fz)(G:GM)(e:Env)(eA:AM.Env) :Prop:=∀t,VR z G (e.get t) (eA.get t)
theorem evV_ok{e:Env}{eA:AM.Env}(he:EnvR z G e eA){o:Operand}(ho:operandOk o=true) :VR z G (evV e o) (eA.eval o):=by
 cases o with
 | tmp t=>exact he t
 | const v=>exact constV_ok ho
 | global g=>cases ho
 | func f=>exact .fn f .nil .nil
theorem evT_ok{e:Env}{eA:AM.Env}(he:EnvR z G e eA){o:Operand}(ho:operandOk o=true)(t:TypeId) :VR z G (evT P t (evV e) o) (eA.eval o):=by
 cases o with
 | const v=>
  show VR z G (match tpOf P t with | some p=>constTo p v | none=>constV v) v
  cases tpOf P t with
  | some p=>exact constTo_ok ho
  | none=>exact constV_ok ho
 | tmp t=>exact he t
 | global g=>cases ho
 | func f=>exact .fn f .nil .nil
/-! ### comparisons -/
def scalV(v:Value) :Bool:=match v with | .int .. | .bool _ | .string _=>true | _=>false
theorem ofVal_ok{v:Value}(h:scalV v=true) :VR z G (ofVal v) v:=by
 cases v <;>first | (cases h; done) | skip
 ·exact .t (.bool _)
 ·exact .t (.int _ _)
 ·exact .t (.str _)
theorem valOf_ok{x:V}{u:Value}(h:VR z G x u) :valOf x=AM.junk∨valOf x=u:=by
 cases h with
 | t h=>cases h <;>first | exact .inr rfl | exact .inl rfl
 | tagg h=>exact .inl rfl
 | con h=>exact .inr rfl
 | _=>exact .inl rfl
theorem intC_scal{op:BinOp}{k k':IntKind}{a b:Int}{v:Value}(h:intC op k k' a b some=some v) :scalV v=true:=by
 cases op <;>simp only [intC] at h <;>obtain ⟨_,h⟩:=needC_some h <;>first
  | (cases h; rfl)
  | (obtain ⟨_,h⟩:=needC_some h; cases h; rfl)
theorem eqlC_scal{op:BinOp}{b:Bool}{v:Value}(h:eqlC op b some=some v) :scalV v=true:=by
 cases op <;>simp only [eqlC] at h <;>first | (cases h; rfl) | cases h
theorem strC_scal{op:BinOp}{a b:ByteArray}{v:Value}(h:strC op a b some=some v) :scalV v=true:=by
 cases op <;>simp only [strC] at h <;>first
  | (cases h; rfl)
  | (obtain ⟨_,h⟩:=needC_some h; cases h; rfl)
  | cases h
theorem binC_D(op:BinOp)(d:Option TypeDesc)(q:Option (List Value))(x y:Value)(K:Value→Option R) :binC op d q x y K=(binC op d q x y some).bind K:=by rw [binC_bind]; rfl
theorem binC_ok{op:BinOp}{d:Option TypeDesc}{q0:Option (List Value)}{x:Value}{y:V}{w:Value}(hx:scalV x=true)(hy:VR z G y w){K:V→Option R}{q:R}(hk:binC op d none x (valOf y) (fun v=>K (ofVal v))=some q) :
  ∃v u,K v=some q∧VR z G v u∧∀(R:Type) (KA:Value→Option R),binC op d q0 x w KA=KA u:=by
 have hne:valOf y ≠AM.junk:=by
  intro e
  rw [e] at hk
  cases x <;>first | (cases hx; done) | skip
  all_goals (unfold binC AM.junk at hk; cases hk)
 have hw:valOf y=w:=(valOf_ok hy).resolve_left hne
 rw [hw,binC_D] at hk
 obtain ⟨v,h1,h2⟩:=Option.bind_eq_some_iff.1 hk
 have e:∀(R:Type) (KA:Value→Option R),binC op d q0 x w KA=binC op d none x w KA:=by
  intro R KA
  cases x <;>first | (cases hx; done) | rfl
 have hs:scalV v=true:=by
  cases x <;>first | (cases hx; done) | skip
  ·unfold binC at h1
   cases w <;>simp only at h1 <;>first | (cases h1; done) | skip
   split at h1
   ·exact eqlC_scal h1
   ·cases h1
  ·unfold binC at h1
   cases w <;>simp only at h1 <;>first | (cases h1; done) | skip
   exact intC_scal h1
  ·unfold binC at h1
   cases w <;>simp only at h1 <;>first | (cases h1; done) | skip
   exact strC_scal h1
 refine ⟨_,v,h2,ofVal_ok hs,fun R KA=> ?_⟩
 rw [e,binC_D,h1]
 rfl
theorem eqlV_ok{op:BinOp}{b:Bool}{K:V→Option R}{q:R}(hk:eqlV op b K=some q) :∃v u,K v=some q∧VR z G v u∧∀(R:Type) (KA:Value→Option R),eqlC op b KA=KA u:=by
 cases op <;>simp only [eqlV] at hk <;>first | (cases hk; done) | skip
 ·exact ⟨_,_,hk, .t (.bool _),fun _ _=>rfl⟩
 ·exact ⟨_,_,hk, .t (.bool _),fun _ _=>rfl⟩
theorem shapeT_ok :∀{zs:List Value} {xs:List T} {us:List Value},shapeT zs xs=true→SRs z xs us→shapeB zs us=true
 | [],[],_,_, .nil=>rfl
 | zv::zs,[],_,h,_=>by cases zv <;>cases h
 | [],_::_,_,h,_=>by cases h
 | zv::zs,x::xs,_,h, .cons a b=>by
  cases a with
  | int k n=>
   cases zv <;>simp only [shapeT] at h <;>first | (cases h; done) | skip
   simp only [Bool.and_eq_true] at h
   simp only [shapeB,Bool.and_eq_true]
   exact ⟨h.1,shapeT_ok h.2 b⟩
  | bool k=>
   cases zv <;>simp only [shapeT] at h <;>first | (cases h; done) | skip
   simp only [shapeB]
   exact shapeT_ok h b
  | str k=>
   cases zv <;>simp only [shapeT] at h <;>first | (cases h; done) | skip
   simp only [shapeB]
   exact shapeT_ok h b
  | nil s=>cases zv <;>simp only [shapeT] at h <;>cases h
  | list f _ _ _ _=>cases zv <;>simp only [shapeT] at h <;>cases h
theorem eqTs_ok :∀{xs ys:List T} {us ws:List Value} {b:Bool},SRs z xs us→SRs z ys ws→eqTs xs ys=some b→eqCells us ws=some b
 | [],[],_,_,b, .nil, .nil,h=>h
 | [],_::_,_,_,b,_,_,h=>by cases h
 | _::_,[],_,_,b,_,_,h=>by cases h
 | x::xs,y::ys,_,_,b, .cons a as, .cons c cs,h=>by
  unfold eqTs at h
  split at h
  ·rename_i b1 hb1
   obtain ⟨b2,h1,h2⟩:=Option.map_eq_some_iff.1 h
   have i1:=eqTs_ok as cs h1
   have:∀{u w:Value},SR z x u→SR z y w→eqCell u w=some b1:=by
    intro u w hu hw
    cases hu <;>cases hw <;>simp only [eqT1] at hb1 <;>first | (cases hb1; done) | exact hb1
   unfold eqCells
   rw [this a c]
   simp only [i1,Option.map_some,h2]
  ·cases h
theorem isNilS_ok{y:V}{w:Value}(h:VR z G y w)(hn:isNilS y=true) :w= .slice none 0 0:=by
 unfold isNilS at hn
 split at hn
 ·split at hn
  ·rename_i sz nn l
   simp only [Bool.and_eq_true,Bool.not_eq_true',List.isEmpty_iff] at hn
   obtain ⟨rfl,rfl⟩:=hn
   cases vr_t h with
   | one hr=>cases hr; rfl
  ·cases hn
 ·cases hn
theorem isNilP_ok{y:V}{w:Value}(h:VR z G y w)(hn:isNilP y=true) :w= .pointer none:=by
 unfold isNilP at hn
 split at hn
 ·split at hn
  ·rename_i a
   cases h with
   | con hp=>
    cases a with
    | none=>rfl
    | some a=>cases hn
  ·cases hn
 ·cases hn
theorem binV_ok(s:Sm F N G st h){op:BinOp}{d:Option TypeDesc}{eqt:Option (List Value)}{x y:V}{u w:Value}(hx:VR (fz F h) G x u)(hy:VR (fz F h) G y w){K:V→Option R}{q:R}(hk:binV st.blks op d eqt x y K=some q) :
  ∃v t,K v=some q∧VR (fz F h) G v t∧∀(R:Type) (KA:Value→Option R),binC op d eqt u w KA=KA t:=by
 unfold binV at hk
 split at hk
 ·obtain ⟨h1,hk⟩:=needC_some hk
  have:=isNilS_ok hy h1
  subst this
  obtain ⟨sz,nn,l,a,c,cs,h2,rfl,h4,_,_,_,_⟩:=contC_ok s (Fz.le_refl _) hx hk
  obtain ⟨v,t,i1,i2,i3⟩:=eqlV_ok (z:=fz F h) (G:=G) h2
  refine ⟨v,t,i1,i2,fun R KA=> ?_⟩
  have:a.isNone= !nn:=by
   cases nn with
   | false=>rw [h4.1 rfl]; rfl
   | true=>
    cases a with
    | none=>exact absurd (h4.2 rfl) (by simp)
    | some _=>rfl
  simp only [binC,nilC]
  rw [this]
  exact i3 R KA
 ·obtain ⟨h1,hk2⟩:=needC_some hk
  have:=isNilP_ok hy h1
  subst this
  clear hk
  split at hk2
  ·split at hk2
   ·split at hk2
    ·obtain ⟨v,t,i1,i2,i3⟩:=eqlV_ok (z:=fz F h) (G:=G) hk2
     cases hx with
     | con _=>exact ⟨v,t,i1,i2,fun R KA=>by simp only [binC,nilC]; exact i3 R KA⟩
    ·cases hk2
   ·cases hk2
  ·obtain ⟨v,t,i1,i2,i3⟩:=eqlV_ok (z:=fz F h) (G:=G) hk2
   cases hx <;>exact ⟨v,t,i1,i2,fun R KA=>by simp only [binC,nilC]; exact i3 R KA⟩
  ·obtain ⟨v,t,i1,i2,i3⟩:=eqlV_ok (z:=fz F h) (G:=G) hk2
   cases hx <;>exact ⟨v,t,i1,i2,fun R KA=>by simp only [binC,nilC]; exact i3 R KA⟩
  ·cases hk2
 ·split at hk
  ·rename_i a
   cases a <;>simp only at hk <;>first | (cases hk; done) | skip
   ·cases vr_t hx with
    | one hr=>cases hr; exact binC_ok rfl hy hk
   ·cases vr_t hx with
    | one hr=>cases hr; exact binC_ok rfl hy hk
   ·cases vr_t hx with
    | one hr=>cases hr; exact binC_ok rfl hy hk
   ·rename_i xs
    split at hk
    ·split at hk
     ·rename_i ys
      split at hk
      ·rename_i zs
       obtain ⟨h1,hk⟩:=needC_some hk
       simp only [Bool.and_eq_true] at h1
       split at hk
       ·rename_i b hb
        obtain ⟨v,t,i1,i2,i3⟩:=eqlV_ok (z:=fz F h) (G:=G) hk
        cases vr_t hx with
        | one hr=>cases hr
        | agg hxs=>
         cases vr_t hy with
         | one hr=>cases hr
         | agg hys=>
          refine ⟨v,t,i1,i2,fun R KA=> ?_⟩
          simp only [binC,shapeT_ok h1.1 hxs,shapeT_ok h1.2 hys,Bool.and_self,eqTs_ok hxs hys hb]
          exact i3 R KA
       ·cases hk
      ·cases hk
     ·cases hk
    ·cases hk
  ·cases hk
theorem unV_ok{op:UnOp}{x:V}{u:Value}(hx:VR z G x u){K:V→Option R}{q:R}(hk:unV op x K=some q) :∃v t,K v=some q∧VR z G v t∧∀(R:Type) (KA:Value→Option R),unC op u KA=KA t:=by
 unfold unV at hk
 rcases valOf_ok hx with e | e
 ·rw [e] at hk
  cases op <;>cases hk
 ·rw [e] at hk
  cases op <;>simp only [unC] at hk <;>first | (cases hk; done) | skip
  all_goals
   split at hk
   ·exact ⟨_,_,hk,ofVal_ok rfl,fun _ _=>rfl⟩
   ·cases hk
theorem asIntV_ok{x:V}{u:Value}(hx:VR z G x u){K:IntKind→Int→Option R}{q:R}(hk:asIntV x K=some q) :∃k n,K k n=some q∧x= .t (.int k n)∧u= .int k n:=by
 unfold asIntV at hk
 split at hk
 ·split at hk
  ·cases vr_t hx with
   | one hr=>cases hr; exact ⟨_,_,hk,rfl,rfl⟩
  ·cases hk
 ·cases hk
theorem asStrV_ok{x:V}{u:Value}(hx:VR z G x u){K:ByteArray→Option R}{q:R}(hk:asStrV x K=some q) :∃s,K s=some q∧x= .t (.str s)∧u= .string s:=by
 unfold asStrV at hk
 split at hk
 ·split at hk
  ·cases vr_t hx with
   | one hr=>cases hr; exact ⟨_,hk,rfl,rfl⟩
  ·cases hk
 ·cases hk
theorem asBoolV_ok{x:V}{u:Value}(hx:VR z G x u){K:Bool→Option R}{q:R}(hk:asBoolV x K=some q) :∃s,K s=some q∧x= .t (.bool s)∧u= .bool s:=by
 unfold asBoolV at hk
 split at hk
 ·split at hk
  ·cases vr_t hx with
   | one hr=>cases hr; exact ⟨_,hk,rfl,rfl⟩
  ·cases hk
 ·cases hk
theorem convV_ok(s:Sm F N G st h){a b:TypeId}{x:V}{u:Value}(hx:VR (fz F h) G x u){K:V→Option R}{q:R}(hk:convV P st.blks a b x K=some q) :
  ∃v t,K v=some q∧VR (fz F h) G v t∧∀(R:Type) (KA:Value→Option R),convC P a b u h KA=KA t:=by
 unfold convV at hk
 split at hk
 ·rename_i h1 h2
  obtain ⟨k,n,hk,rfl,rfl⟩:=asIntV_ok hx hk
  exact ⟨_,_,hk, .t (.int _ _),fun R KA=>by simp only [convC,h1,h2]⟩
 ·rename_i h1 h2
  obtain ⟨k,n,hk2,rfl,rfl⟩:=asIntV_ok hx hk
  obtain ⟨h3,hk3⟩:=needC_some hk2
  exact ⟨_, .string ⟨#[n.toNat.toUInt8]⟩,hk3, .t (.str _),fun R KA=>by simp only [convC,h1,h2,h3]; rfl⟩
 ·rename_i h1 h2
  obtain ⟨sv,hk,rfl,rfl⟩:=asStrV_ok hx hk
  exact ⟨_,_,hk, .t (.str _),fun R KA=>by simp only [convC,h1,h2]; rfl⟩
 ·rename_i e h1 h2
  split at hk
  ·rename_i h3
   obtain ⟨sz,nn,l,ad,c,cs,h4,rfl,h6,h7,h7e,h8,h9⟩:=contC_ok s (Fz.le_refl _) hx hk
   obtain ⟨h10,h11⟩:=needC_some h4
   simp only [Bool.and_eq_true,beq_iff_eq,List.all_eq_true] at h10
   obtain ⟨rfl,hby⟩:=h10
   have hcs:∀(i:Nat) (x:T),l[i]? =some x→∃n,x=T.int .u8 n∧cs[i]? =some (Value.int .u8 n):=by
    intro i x hi
    have hb:=hby x (List.mem_of_getElem? hi)
    unfold isByte at hb
    split at hb
    ·rename_i k n
     have hk':=of_decide_eq_true hb
     subst hk'
     obtain ⟨v,a1,a2⟩:=h7.at_ i _ 0 _ hi (by rfl:(T.int .u8 n).cells[0]? =some (T.int .u8 n))
     cases a2
     rw [Nat.mul_one,Nat.add_zero] at a1
     exact ⟨n,rfl,a1⟩
    ·cases hb
   have hmap:cs.map byteV=l.map byteT:=by
    apply List.ext_getElem?
    intro i
    rw [List.getElem?_map,List.getElem?_map]
    cases hl:l[i]? with
    | none=>
     have:cs[i]? =none:=by
      rw [List.getElem?_eq_none_iff] at hl ⊢
      rw [h7e]
      omega
     rw [this]
     rfl
    | some x=>
     obtain ⟨n,rfl,a1⟩:=hcs i x hl
     rw [a1]
     rfl
   refine ⟨_, .string ⟨(l.map byteT).toArray⟩,h11, .t (.str _),fun R KA=> ?_⟩
   simp only [convC,h1,h2,h3,asSliceC]
   cases ad with
   | none=>
    have:=h8 rfl
    subst this
    rfl
   | some ad=>
    have hlen:cs.length=l.length:=by rw [h7e,Nat.mul_one]
    show Hp.ldCellsC h ad (List.replicate l.length (.int .u8 0)) 0 (fun cs=>KA (.string ⟨(cs.map byteV).toArray⟩))=_
    rw [ldCells_to (us:=cs) _ (by simp [hlen]) fun j u zv hj hz=> ?_,hmap]
    rw [Nat.zero_add]
    refine ⟨h9 ad rfl j u hj,fun K=> ?_⟩
    have hjl:j<l.length:=by
     rcases Nat.lt_or_ge j cs.length with h | h
     ·omega
     ·rw [List.getElem?_eq_none h] at hj; cases hj
    obtain ⟨n,_,a1⟩:=hcs j _ (List.getElem?_eq_getElem hjl)
    rw [hj] at a1
    cases a1
    rw [List.getElem?_replicate,if_pos hjl] at hz
    cases hz
    simp [like1C,asIntC]
  ·cases hk
 ·cases hk
end
end Go.Proofs.Ytpfploolkmcalaa.VM
end
section
namespace Go.Proofs.Ytpfploolkmcalaa.VM
open Go AM
set_option linter.unusedSectionVars false
set_option linter.unusedSimpArgs false
set_option linter.unusedVariables false
section
variable {F F' N:NS} {G G':GM} {st st':St} {h h':Hp} {R:Type} {z:Fz} (P:Program)
theorem zero1_ok{p:TP1}{zv:Value}(hz:tpz1 p zv=true) :VR z G (zero1 p zv) zv:=by
 cases p with
 | int k=>
  cases zv <;>simp only [tpz1,Bool.and_eq_true,decide_eq_true_eq] at hz <;>first | (cases hz; done) | skip
  obtain ⟨rfl,rfl⟩:=hz
  exact .t (.int _ _)
 | bool=>
  cases zv <;>simp only [tpz1,Bool.not_eq_true'] at hz <;>first | (cases hz; done) | skip
  all_goals (subst hz; exact .t (.bool _))
 | str=>
  cases zv <;>simp only [tpz1,decide_eq_true_eq] at hz <;>first | (cases hz; done) | skip
  all_goals (subst hz; exact .t (.str _))
 | list s=>
  cases zv with
  | slice a n c=>
   cases a with
   | none=>
    simp only [tpz1,Bool.and_eq_true,beq_iff_eq] at hz
    obtain ⟨rfl,rfl⟩:=hz
    exact .t (.nil s)
   | some a=>cases hz
  | _=>cases hz
 | ptr=>
  cases zv with
  | pointer a=>cases a with
   | none=>exact .con rfl
   | some a=>cases hz
  | _=>cases hz
 | map=>
  cases zv with
  | map a=>cases a with
   | none=>exact .con rfl
   | some a=>cases hz
  | _=>cases hz
 | oth=>cases zv <;>first | exact .con rfl | cases hz
theorem zeros_ok :∀{ps:List TP1} {zs:List Value},tpzs ps zs=true→VRs z G (zeros ps zs) zs
 | [],[],_=> .nil
 | [],_::_,h=>by cases h
 | _::_,[],h=>by cases h
 | p::ps,zv::zs,h=>by
  simp only [tpzs,Bool.and_eq_true] at h
  exact .cons (zero1_ok h.1) (zeros_ok h.2)
theorem zeroV_ok{p:TP}{zv:Value}(hz:tpz p zv=true) :VR z G (zeroV p zv) zv:=by
 cases p with
 | one p=>
  have hz':tpz1 p zv=true:=by cases zv <;>exact hz
  exact zero1_ok hz'
 | agg ps=>
  cases zv <;>simp only [tpz] at hz <;>first | (cases hz; done) | skip
  exact aggV_ok (zeros_ok hz)
theorem zeroV_cells{p:TP}{zv:Value}(hz:tpz p zv=true) :VRs z G (zeroV p zv).cells zv.cells.toList∧(zeroV p zv).cells.all okV=true:=by
 have h1:∀{p:TP1} {zv:Value},tpz1 p zv=true→okV (zero1 p zv)=true:=by
  intro p zv hz
  cases p <;>first | rfl | skip
  ·cases zv with
   | pointer a=>cases a with
    | none=>rfl
    | some a=>cases hz
   | _=>cases hz
  ·cases zv with
   | map a=>cases a with
    | none=>rfl
    | some a=>cases hz
   | _=>cases hz
  ·cases zv <;>first | rfl | cases hz
 have h2:∀{ps:List TP1} {zs:List Value},tpzs ps zs=true→(zeros ps zs).all okV=true:=by
  intro ps
  induction ps with
  | nil=>intro zs _; rfl
  | cons p ps ih=>
   intro zs h
   cases zs with
   | nil=>cases h
   | cons zv zs=>
    simp only [tpzs,Bool.and_eq_true] at h
    simp only [zeros,List.all_cons,h1 h.1,ih h.2,Bool.and_self]
 have hok:(zeroV p zv).cells.all okV=true:=by
  cases p with
  | one p=>
   have hz':tpz1 p zv=true:=by cases zv <;>exact hz
   have:=h1 hz'
   show (zero1 p zv).cells.all okV=true
   cases hv:zero1 p zv with
   | t x=>
    rw [hv] at this
    cases x <;>first | rfl | cases this
   | con v=>rw [hv] at this; simp [V.cells,this]
   | _=>rw [hv] at this; first | rfl | cases this
  | agg ps=>
   cases zv <;>simp only [tpz] at hz <;>first | (cases hz; done) | skip
   rename_i zs
   have:=h2 hz
   show (aggV (zeros ps zs.toList)).cells.all okV=true
   unfold aggV
   split
   ·rename_i ts ht
    obtain ⟨e,_⟩:=allT_some ht
    rw [e] at this
    exact this
   ·exact this
 exact okV_cells (zeroV_ok hz) hok |>.1 |> fun h=>⟨h,hok⟩
/-! ### structs that are built -/
theorem splice_toList{cs vs:Array Value}{o:Nat}(hl:o+vs.size≤cs.size) :(vs.zipIdx.foldl (fun cs (c,j)=>cs.setIfInBounds (o+j) c) cs).toList=splice cs.toList o vs.toList:=by
 have key:∀(l:List Value) (k:Nat) (cs:Array Value),o+k+l.length≤cs.size→((l.zipIdx k).foldl (fun cs (x:Value×Nat)=>cs.setIfInBounds (o+x.2) x.1) cs).toList=splice cs.toList (o+k) l:=by
  intro l
  induction l with
  | nil=>intro k cs _; simp [splice]
  | cons v l ih=>
   intro k cs hk
   rw [List.zipIdx_cons,List.foldl_cons,ih (k+1) _ (by simp at hk ⊢; omega)]
   apply List.ext_getElem?
   intro i
   have hlen:(cs.setIfInBounds (o+k) v).toList.length=cs.toList.length:=by simp
   rw [splice,splice,splice_get _ _ _ (by rw [hlen]; simp at hk ⊢; omega),splice_get _ _ _ (by simp at hk ⊢; omega)]
   simp only [Array.toList_setIfInBounds,List.length_cons]
   by_cases h1:i=o+k
   ·subst h1
    rw [if_neg (by omega),if_pos (by omega),List.getElem?_set_self (by simp at hk ⊢; omega)]
    simp
   ·rw [List.getElem?_set_ne (by omega)]
    by_cases h2:o+(k+1)≤i∧i<o+(k+1)+l.length
    ·rw [if_pos h2,if_pos (by omega),show i - (o+k)=(i - (o+(k+1)))+1 by omega,List.getElem?_cons_succ]
    ·rw [if_neg h2,if_neg (by omega)]
 have:=key vs.toList 0 cs (by simpa using hl)
 rw [Nat.add_zero] at this
 rw [←this,←Array.foldl_toList]
 simp
theorem fillV_ok{pl:Nat→Option (Nat×Nat)}{q:R} :∀{ps:List (Nat×V)} {us:List (Nat×Value)} {cs:List V} {ca:Array Value} {K:List V→Option R},All2 (fun (x:Nat×V) (y:Nat×Value)=>x.1=y.1∧VR z G x.2 y.2) ps us→VRs z G cs ca.toList→fillV pl cs ps K=some q→
  ∃cs' ca',K cs'=some q∧VRs z G cs' ca'.toList∧Instr.fill pl ca us=some ca'∧us.all (fun p=>oneCells p.2.cells.toList)=true
 | [],[],cs,ca,K, .nil,hc,hk=>⟨cs,ca,hk,hc,rfl,rfl⟩
 | (i,v)::ps,(i',u)::us,cs,ca,K, .cons ⟨e,hv⟩ hs,hc,hk=>by
  simp only at e
  subst e
  unfold fillV at hk
  split at hk
  ·rename_i off size hpl
   obtain ⟨h1,hk⟩:=needC_some hk
   simp only [Bool.and_eq_true,decide_eq_true_eq] at h1
   obtain ⟨⟨h1,h2⟩,h3⟩:=h1
   obtain ⟨i1,i2⟩:=okV_cells hv h3
   have l1:v.cells.length=u.cells.size:=by rw [←Array.length_toList]; exact i1.all.length
   have l2:cs.length=ca.size:=by rw [←Array.length_toList]; exact hc.all.length
   have hb:off+u.cells.size≤ca.size:=by omega
   have hc':VRs z G (spliceV cs off v.cells) (u.cells.zipIdx.foldl (fun cs (c,j)=>cs.setIfInBounds (off+j) c) ca).toList:=by
    rw [splice_toList hb]
    exact VRs.of (all2_splice hc.all i1.all off)
   obtain ⟨cs',ca',j1,j2,j3,j4⟩:=fillV_ok hs hc' hk
   refine ⟨cs',ca',j1,j2, ?_,by simp only [List.all_cons,i2,j4,Bool.and_self]⟩
   unfold Instr.fill
   simp only [hpl]
   rw [if_neg (by simp only [Bool.or_eq_true,decide_eq_true_eq,ne_eq]; omega)]
   exact j3
  ·cases hk
theorem buildV_ok{t:TypeId}{ps:List (Nat×V)}{us:List (Nat×Value)}(hs:All2 (fun (x:Nat×V) (y:Nat×Value)=>x.1=y.1∧VR z G x.2 y.2) ps us){K:V→Option R}{q:R}(hk:buildV P t ps K=some q) :
  ∃v w,K v=some q∧VR z G v w∧us.all (fun p=>oneCells p.2.cells.toList)=true∧∀(R:Type) (KA:Value→Option R),buildC P t us KA=KA w:=by
 unfold buildV at hk
 obtain ⟨p,zv,ti,hp,hk⟩:=tpC_some P hk
 have hz0:=zeroV_cells (z:=z) (G:=G) hp.tpz
 split at hk
 ·rename_i fs hu
  split at hk
  ·rename_i pl hpl
   obtain ⟨cs,ca,j1,j2,j3,j4⟩:=fillV_ok hs hz0.1 hk
   refine ⟨_,_,j1,aggV_ok j2,j4,fun R KA=> ?_⟩
   unfold buildC
   rw [zeroC_to P hp.info hp.zero hp.plain]
   simp only [hu,hpl]
   rw [j3]
  ·cases hk
 ·rename_i n e hu
  obtain ⟨ti2,h1,hk⟩:=sizeC_some P hk
  obtain ⟨cs,ca,j1,j2,j3,j4⟩:=fillV_ok hs hz0.1 hk
  refine ⟨_,_,j1,aggV_ok j2,j4,fun R KA=> ?_⟩
  unfold buildC
  rw [zeroC_to P hp.info hp.zero hp.plain]
  simp only [hu]
  rw [sizeC_to P h1,j3]
 ·cases hk
/-! ### elements and parts -/
theorem subX_ok{t:TypeId}{p:TP}{zv:Value}{ti:TypeInfo}(hp:TPof P t p zv ti){off:Nat}{x:T}{K:T→Option R}{q:R}(hk:subX p off x K=some q) :∃y,K y=some q∧isT p y∧x= .agg x.cells∧
  (∀j c,y.cells[j]? =some c→x.cells[off+j]? =some c)∧(∀ps,p= .agg ps→y.cells=(x.cells.drop off).take ps.length):=by
 unfold subX at hk
 split at hk
 ·rename_i cs
  cases p with
  | one p=>
   simp only at hk
   obtain ⟨y,hy,hk⟩:=getT_some hk
   obtain ⟨hk,hf⟩:=fitT1_some hk
   refine ⟨y,hk,hf,rfl,fun j c hj=> ?_,fun ps e=>nomatch e⟩
   rw [fits_scal hf] at hj
   cases j with
   | zero=>
    simp only [List.getElem?_cons_zero,Option.some.injEq] at hj
    subst hj
    exact hy
   | succ j=>simp at hj
  | agg ps=>
   simp only at hk
   obtain ⟨hk,hf⟩:=fitTs_some hk
   refine ⟨_,hk,⟨_,rfl,hf⟩,rfl,fun j c hj=> ?_,fun ps' e=>by cases e; rfl⟩
   have hj':((cs.drop off).take ps.length)[j]? =some c:=hj
   rw [List.getElem?_take] at hj'
   split at hj'
   ·rw [List.getElem?_drop] at hj'; exact hj'
   ·cases hj'
 ·cases hk
theorem subV_ok{t:TypeId}{p:TP}{zv:Value}{ti:TypeInfo}(hp:TPof P t p zv ti){off:Nat}{x:V}{u:Value}(hx:VR z G x u){K:V→Option R}{q:R}(hk:subV p off x K=some q) :
  ∃v w cs,K v=some q∧VR z G v w∧u= .agg cs∧∀(R:Type) (KA:Value→Option R),partC P t cs.toList off KA=KA w:=by
 have fin1:∀{p1:TP1} {v:V} {w:Value} {cs:Array Value},p= .one p1→isV1 p1 v→VR z G v w→cs.toList[off]? =some w→∀(R:Type) (KA:Value→Option R),partC P t cs.toList off KA=KA w:=by
  intro p1 v w cs e hv hr hc R KA
  subst e
  unfold partC
  rw [aggC_one P hp.tp]
  simp only [cond_false]
  rw [zeroC_to P hp.info hp.zero hp.plain,hc]
  have hz:tpz1 p1 zv=true:=by
   have:=hp.tpz
   cases zv <;>exact this
  exact like1_V hz hv hr KA
 have fin2:∀{ps:List TP1} {cs:Array Value},p= .agg ps→∀(R:Type) (KA:Value→Option R),partC P t cs.toList off KA=KA (.agg ((cs.toList.drop off).take ps.length).toArray):=by
  intro ps cs e R KA
  subst e
  unfold partC
  rw [aggC_agg P hp.tp]
  simp only [cond_true]
  rw [sizeC_to P hp.info]
  have:ti.size=ps.length:=by
   rw [←hp.size]
   have hz:=hp.tpz
   cases zv <;>simp only [tpz] at hz <;>first | (cases hz; done) | skip
   rw [(tpzs_all hz).length]
   rfl
  rw [this]
 unfold subV at hk
 cases x with
 | t x=>
  simp only at hk
  obtain ⟨y,h1,h2,h3,h4,h5⟩:=subX_ok P hp hk
  rw [h3] at hx
  cases vr_t hx with
  | one hr=>cases hr
  | @agg _ cs hcs=>
   cases p with
   | one p1=>
    have h2:fits1 p1 y=true:=h2
    have hy:=h4 0 y (by rw [fits_scal h2]; rfl)
    obtain ⟨w,a1,a2⟩:=hcs.get hy
    exact ⟨_,w,cs,h1, .t a2,rfl,fin1 rfl (v:= .t y) h2 (VR.t (G:=G) a2) (by simpa using a1)⟩
   | agg ps=>
    have h6:=(hcs.drop off).take ps.length
    refine ⟨_,_,cs,h1, ?_,rfl,fin2 rfl⟩
    obtain ⟨cy,rfl,_⟩:=h2
    have h7:=h5 ps rfl
    rw [show (T.agg cy).cells=cy from rfl] at h7
    rw [h7]
    exact .tagg (by simpa using h6)
 | agg vs=>
  cases hx with
  | @agg _ cs hcs=>
   cases p with
   | one p1=>
    simp only at hk
    obtain ⟨v,hv,hk⟩:=getV_some hk
    obtain ⟨hk,hf⟩:=fitV1_some hk
    obtain ⟨w,a1,a2⟩:=hcs.all.get hv
    exact ⟨v,w,cs,hk,a2,rfl,fin1 rfl hf a2 a1⟩
   | agg ps=>
    simp only at hk
    obtain ⟨hk,hf⟩:=fitVs_some hk
    exact ⟨_,_,cs,hk,aggV_ok (a:=((cs.toList.drop off).take ps.length).toArray) (by simpa using VRs.of ((hcs.all.drop off).take ps.length)),rfl,fin2 rfl⟩
 | _=>cases hk
theorem fieldC_some{t:TypeId}{f:Nat}{K:Field→Option R}{r:R}(hk:fieldC P t f K=some r) :∃fd,K fd=some r∧∀(S:Type) (KA:Field→Option S),fieldC P t f KA=KA fd:=by
 unfold fieldC at hk
 split at hk
 ·rename_i fs hu
  split at hk
  ·rename_i fd hf
   exact ⟨fd,hk,fun S KA=>by unfold fieldC; simp only [hu,hf]⟩
  ·cases hk
 ·cases hk
theorem pt_sub{x y:T}{a:Addr}{off:Nat}(hx:VR z G (.pt x) (.pointer (some a)))(hs:∀j c,y.cells[j]? =some c→x.cells[off+j]? =some c) :VR z G (.pt y) (.pointer (some (a.add off))):=by
 cases hx with
 | pt f hf=>
  refine .pt (fun j=>f (off+j)) fun j c hj=> ?_
  obtain ⟨h1,h2⟩:=hf (off+j) c (hs j c hj)
  refine ⟨?_,h2⟩
  have:(a.add off).add j=a.add (off+j):=by
   unfold Addr.add
   split <;>split <;>(try split) <;>(try subst_vars) <;>simp_all [Nat.add_assoc] <;>omega
  rw [this]
  exact h1
end
end Go.Proofs.Ytpfploolkmcalaa.VM
end
