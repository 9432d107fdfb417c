/- Merged: Am22 Am23 Am24 Am26. Conditions: none. -/
import Derived.Test.YtpfploolkmcalaaAmC
import Derived.KernelRfl
import Derived.IntWalk
import Derived.WideShapes
set_option linter.all false
section
namespace Go.Proofs.Ytpfploolkmcalaa.AM
open Go
section
variable {R:Type}
def lt{α:Type}(x:α)(f:α→Option R) :Option R:=f x
def ldI(h:Hp)(k:IntKind)(a:Addr)(K:Int→Option R) :Option R:=match h.cell a with | some v=>asIntC k v K | none=>none
def ldB(h:Hp)(a:Addr)(K:Bool→Option R) :Option R:=match h.cell a with | some v=>asBoolC v K | none=>none
def atC(a:Option Addr)(n s:Nat)(i:Int)(K:Addr→Option R) :Option R:=
 needC (decide (0≤i) &&decide (i<(n:Int))) fun _=>match a with
  | some ad=>K (ad.add (i.toNat*s))
  | none=>none
def catC(a b:ByteArray)(K:ByteArray→Option R) :Option R:=needC (decide (a.size+b.size≤9223372036854775807)) fun _=>K (a++b)
end
inductive Stp where
 | fst | snd | yes | no | blk | lp
def bodyOf(fn:Func) :Code:=match fn.body with | some c=>c | none=> .skip
def nav :List Stp→Code→Code
 | [],c=>c
 | .fst::p, .seq a _=>nav p a
 | .snd::p, .seq _ b=>nav p b
 | .yes::p, .cond _ a _=>nav p a
 | .no::p, .cond _ _ b=>nav p b
 | .blk::p, .block _ b=>nav p b
 | .blk::p, .scope b=>nav p b
 | .lp::p, .loop b=>nav p b
 | _,c=>c
section
variable (P:Program) (H:Hint)
end
end Go.Proofs.Ytpfploolkmcalaa.AM
end
section
namespace Go.Proofs.Ytpfploolkmcalaa.AM
open Go
section
variable {R α:Type} {h h' h0:Hp}
structure HpOk (h:Hp):Prop where
 new:∀r b,h.new r=some b→h.base≤r∧r<h.next
 maps:∀r es,h.maps r=some es→h.base≤r∧r<h.next
 old:∀a v,h.old a=some v→a.block<h.base
 next:h.base≤h.next
structure Keeps (h h':Hp):Prop where
 base:h'.base=h.base
 old:h'.old=h.old
 next:h.next≤h'.next
 new:∀r,r<h.next→h'.new r=h.new r
 maps:∀r,r<h.next→h'.maps r=h.maps r
 low:min h.low h.next≤h'.low
 ok:HpOk h'
theorem Keeps.refl(hok:HpOk h) :Keeps h h:=⟨rfl,rfl,Nat.le_refl _,fun _ _=>rfl,fun _ _=>rfl,Nat.min_le_left _ _,hok⟩
theorem Keeps.trans{a b c:Hp}(x:Keeps a b)(y:Keeps b c) :Keeps a c:=
  ⟨y.base.trans x.base,y.old.trans x.old,Nat.le_trans x.next y.next,
   fun r hr=>(y.new r (Nat.lt_of_lt_of_le hr x.next)).trans (x.new r hr),fun r hr=>(y.maps r (Nat.lt_of_lt_of_le hr x.next)).trans (x.maps r hr),
   by have:=x.low; have:=y.low; have:=x.next; omega,y.ok⟩
theorem Keeps.cell(hok:HpOk h)(hk:Keeps h h'){a:Addr}{v:Value}(hv:h.cell a=some v) :h'.cell a=some v:=by
 unfold Hp.cell at hv ⊢
 have hb:=hk.base
 cases hn:h.new a.block with
 | some b=>
  rw [hn] at hv
  rw [hk.new _ (hok.new _ _ hn).2,hn]
  exact hv
 | none=>
  rw [hn] at hv
  have hlt:=hok.old _ _ hv
  rw [hk.new _ (Nat.lt_of_lt_of_le hlt hok.next),hn,hk.old]
  exact hv
/-! ### Slices that are read. -/
def SlOk(h:Hp)(sz:Nat)(a:Option Addr)(n c:Nat) :Prop:=
 match a with
 | none=>n=0∧c=0
 | some ad=>(ad.block<h.base∧n≤c)∨(h.base≤ad.block∧ad.spot=none∧∃b,h.new ad.block=some b∧b.sz=sz)
structure Sl (E:Hp→Value→α→Prop) (h:Hp) (a:Option Addr) (n c:Nat) (l:List α):Prop where
 len:n=l.length
 ok:SlOk h 1 a n c
 el:∀i (hi:i<l.length),∃ad v,a=some ad∧h.cell (ad.add i)=some v∧E h v l[i]
def IntE(k:IntKind)(_:Hp)(v:Value)(x:Int) :Prop:=v= .int k x
abbrev Ints(h:Hp)(a:Option Addr)(n c:Nat)(l:List Int) :Prop:=Sl (IntE .i64) h a n c l
def adr(a:Option Addr)(i:Int) :Addr:=(a.getD ⟨0,0,none⟩).add (i.toNat*1)
theorem atC_adr{a:Option Addr}{n:Nat}{i:Int}(ha:a ≠none)(h0:0≤i)(h1:i<n)(K:Addr→Option R) :atC a n 1 i K=K (adr a i):=by
 unfold atC needC
 simp only [decide_eq_true h0,decide_eq_true h1,Bool.and_self,cond_true]
 cases a with
 | none=>exact absurd rfl ha
 | some ad=>rfl
theorem Sl.at{E:Hp→Value→α→Prop}{a:Option Addr}{n c:Nat}{l:List α}(hs:Sl E h a n c l){i:Nat}(hi:i<l.length)(K:Addr→Option R) :atC a n 1 (i:Int) K=K (adr a i):=by
 refine atC_adr ?_ (by omega) (by rw [hs.len]; omega) K
 obtain ⟨ad,v,h1,_⟩:=hs.el i hi
 rw [h1]; simp
theorem Sl.cell{E:Hp→Value→α→Prop}{a:Option Addr}{n c:Nat}{l:List α}(hs:Sl E h a n c l){i:Nat}(hi:i<l.length) :∃v,h.cell (adr a i)=some v∧E h v l[i]:=by
 obtain ⟨ad,v,h1,h2,h3⟩:=hs.el i hi
 refine ⟨v, ?_,h3⟩
 rw [h1]
 simpa [adr] using h2
theorem ldI_of{k:IntKind}{a:Addr}{x:Int}(hc:h.cell a=some (.int k x))(K:Int→Option R) :ldI h k a K=K x:=by
 unfold ldI asIntC; rw [hc]; simp
theorem Ints.ld{a:Option Addr}{n c:Nat}{l:List Int}(hs:Ints h a n c l){i:Nat}(hi:i<l.length)(K:Int→Option R) :ldI h .i64 (adr a i) K=K l[i]:=by
 obtain ⟨v,h1,h2⟩:=hs.cell hi
 rw [h2] at h1
 exact ldI_of h1 K
theorem Ints.get{a:Option Addr}{n c:Nat}{l:List Int}(hs:Ints h a n c l){i:Nat}(hi:i<l.length)(K:Int→Option R) :(atC a n 1 (i:Int) fun d=>ldI h .i64 d K)=K l[i]:=by
 rw [hs.at hi,hs.ld hi]
theorem Sl.nil(E:Hp→Value→α→Prop)(h:Hp) :Sl E h none 0 0 []:=⟨rfl,⟨rfl,rfl⟩,fun i hi=>by cases hi⟩
/-! ### Slices of the call's own. -/
structure Mine1 (h:Hp) (lo:Nat) (r:Nat) (n:Nat) (cs:List Value):Prop where
 ge:lo≤r
 len:n=cs.length
 one:oneCells cs=true
 blk:∃b,h.new r=some b∧b.rw=true∧b.sz=1∧b.cells=cs∧∀q∈b.par,lo≤q∧q<r
def Mine(h:Hp)(lo:Nat)(a:Option Addr)(n c:Nat)(cs:List Value) :Prop:=
 (a=none∧n=0∧c=0∧cs=[])∨∃r,a=some ⟨r,0,none⟩∧Mine1 h lo r n cs
theorem Mine.nil(h:Hp)(lo:Nat) :Mine h lo none 0 0 []:= .inl ⟨rfl,rfl,rfl,rfl⟩
theorem Mine.len{lo:Nat}{a:Option Addr}{n c:Nat}{cs:List Value}(hm:Mine h lo a n c cs) :n=cs.length:=by
 rcases hm with ⟨_,h1,_,h2⟩ | ⟨r,_,h1⟩
 ·rw [h1,h2]; rfl
 ·exact h1.len
theorem Mine1.cell{lo r n:Nat}{cs:List Value}(hm:Mine1 h lo r n cs)(i:Nat) :h.cell ⟨r,i,none⟩=cs[i]? :=by
 obtain ⟨b,h1,h2,h3,h4,h5⟩:=hm.blk
 unfold Hp.cell
 simp only [h1,Option.isNone_none,cond_true,h4]
theorem Mine.sl{E:Hp→Value→α→Prop}{lo:Nat}{a:Option Addr}{n c:Nat}{cs:List Value}{l:List α}(hok:HpOk h)(hm:Mine h lo a n c cs)(hl:l.length=cs.length)(hE:∀i (hi:i<l.length),E h (cs[i]'(hl▸hi)) l[i]) :Sl E h a n c l:=by
 refine ⟨hm.len.trans hl.symm, ?_,fun i hi=> ?_⟩
 ·rcases hm with ⟨rfl,h1,h2,_⟩ | ⟨r,rfl,h1⟩
  ·exact ⟨h1,h2⟩
  ·obtain ⟨b,g1,g2,g3,g4,g5⟩:=h1.blk
   exact .inr ⟨(hok.new _ _ g1).1,rfl,b,g1,g3⟩
 ·rcases hm with ⟨rfl,h1,h2,rfl⟩ | ⟨r,rfl,h1⟩
  ·rw [hl] at hi; cases hi
  ·refine ⟨_,cs[i]'(hl▸hi),rfl, ?_,hE i hi⟩
   have:(Addr.mk r 0 none).add i=⟨r,i,none⟩:=by
    unfold Addr.add
    split
    ·subst i; rfl
    ·simp
   rw [this,h1.cell]
   simp [hl▸hi]
def intCells(l:List Int) :List Value:=l.map (.int .i64)
theorem Mine.ints{lo:Nat}{a:Option Addr}{n c:Nat}{l:List Int}(hok:HpOk h)(hm:Mine h lo a n c (intCells l)) :Ints h a n c l:=
 hm.sl hok (by simp [intCells]) fun i hi=>by simp [IntE,intCells]
def Later(lo:Nat)(h h':Hp) :Prop:=∀r b,lo≤r→h.new r=some b→∃b',h'.new r=some b'∧b'.cells=b.cells∧b'.sz=b.sz
theorem Later.refl(lo:Nat)(h:Hp) :Later lo h h:=fun _ b _ hb=>⟨b,hb,rfl,rfl⟩
theorem Later.trans{lo:Nat}{a b c:Hp}(x:Later lo a b)(y:Later lo b c) :Later lo a c:=fun r b0 hr hb=>by
 obtain ⟨b1,h1,h2,h3⟩:=x r b0 hr hb
 obtain ⟨b2,h4,h5,h6⟩:=y r b1 hr h1
 exact ⟨b2,h4,h5.trans h2,h6.trans h3⟩
def Above(h:Hp)(lo:Nat)(a:Option Addr)(n:Nat)(cs:List Value) :Prop:=
 n=cs.length∧((a=none∧cs=[])∨∃r b,a=some ⟨r,0,none⟩∧lo≤r∧h.new r=some b∧b.cells=cs∧b.sz=1)
theorem Above.sl{E:Hp→Value→α→Prop}{lo:Nat}{a:Option Addr}{n:Nat}{cs:List Value}{l:List α}(hok:HpOk h)(hm:Above h lo a n cs)(hl:l.length=cs.length)(hE:∀i (hi:i<l.length),E h (cs[i]'(hl▸hi)) l[i]) :Sl E h a n 0 l:=by
 obtain ⟨hn,hm⟩:=hm
 refine ⟨hn.trans hl.symm, ?_,fun i hi=> ?_⟩
 ·rcases hm with ⟨rfl,rfl⟩ | ⟨r,b,rfl,h1,g1,g4,g3⟩
  ·exact ⟨hn,rfl⟩
  ·exact .inr ⟨(hok.new _ _ g1).1,rfl,b,g1,g3⟩
 ·rcases hm with ⟨rfl,rfl⟩ | ⟨r,b,rfl,h1,g1,g4,g3⟩
  ·rw [hl] at hi; cases hi
  ·refine ⟨_,cs[i]'(hl▸hi),rfl, ?_,hE i hi⟩
   have:(Addr.mk r 0 none).add i=⟨r,i,none⟩:=by
    unfold Addr.add
    split
    ·subst i; rfl
    ·simp
   rw [this]
   unfold Hp.cell
   simp [g1,g4,hl▸hi]
theorem Above.ints{lo:Nat}{a:Option Addr}{n:Nat}{l:List Int}(hok:HpOk h)(hm:Above h lo a n (intCells l)) :Ints h a n 0 l:=
 hm.sl hok (by simp [intCells]) fun i hi=>by simp [IntE,intCells]
theorem Mine.lt{lo r:Nat}{a:Option Addr}{n c:Nat}{cs:List Value}(hok:HpOk h)(hm:Mine h lo a n c cs)(ha:a=some ⟨r,0,none⟩) :lo≤r∧r<h.next:=by
 rcases hm with ⟨rfl,_⟩ | ⟨q,rfl,hm⟩
 ·cases ha
 ·cases ha
  obtain ⟨b,g1,_⟩:=hm.blk
  exact ⟨hm.ge,(hok.new _ _ g1).2⟩
theorem Mine.frame{lo:Nat}{a:Option Addr}{n c:Nat}{cs:List Value}(hm:Mine h lo a n c cs)(hf:∀q b,a=some ⟨q,0,none⟩→h.new q=some b→h'.new q=some b) :Mine h' lo a n c cs:=by
 rcases hm with h1 | ⟨q,h1,hm⟩
 ·exact .inl h1
 ·obtain ⟨b,g1,g⟩:=hm.blk
  exact .inr ⟨q,h1,hm.ge,hm.len,hm.one,b,hf q b h1 g1,g⟩
end
end Go.Proofs.Ytpfploolkmcalaa.AM
end
section
namespace Go.Proofs.Ytpfploolkmcalaa.AM
open Go
section
variable {R α:Type} {h h' h0:Hp}
theorem ok_alloc(hok:HpOk h)(cs:List Value)(sz:Nat)(par:List Nat) :HpOk (h.alloc cs sz par):=
  ⟨fun r b hb=>by
    rw [alloc_new] at hb
    show h.base≤r∧r<h.next+1
    split at hb
    · rename_i he; have:=hok.next; exact ⟨he▸this,by omega⟩
    · have:=hok.new r b hb; exact ⟨this.1,by omega⟩,
   fun r es hm=>by have:=hok.maps r es hm; exact ⟨this.1,by show r<h.next+1; omega⟩,
   hok.old,by have:=hok.next; show h.base≤h.next+1; omega⟩
theorem alloc_at(h:Hp)(cs:List Value)(sz:Nat)(par:List Nat) :(h.alloc cs sz par).new h.next=some ⟨cs,sz,true,par⟩:=by rw [alloc_new,if_pos rfl]
theorem ok_seal(hok:HpOk h)(q:Nat) :HpOk (h.fence q):=
 ⟨fun r b hb=>by
  rw [seal_new] at hb
  split at hb
  ·obtain ⟨b0,h1,_⟩:=Option.map_eq_some_iff.1 hb
   exact hok.new r b0 h1
  ·exact hok.new r b hb,hok.maps,hok.old,hok.next⟩
theorem fold_min_ge{lo:Nat} :∀(l:List Nat) (r:Nat),lo≤r→(∀q∈l,lo≤q)→lo≤l.foldl min r
 | [],r,h,_=>h
 | x::l,r,h,hl=>fold_min_ge l (min r x) (by have:=hl x (by simp); omega) fun q hq=>hl q (by simp [hq])
theorem ok_write(hok:HpOk h){r:Nat}{b b0:Blk}(hb:h.new r=some b0)(o:Nat)(vs:List Value) :HpOk (h.write r b o vs):=
 ⟨fun q b1 h1=>by
  rw [write_new] at h1
  split at h1
  ·rename_i he; exact he▸hok.new r b0 hb
  ·split at h1
   ·cases h1
   ·exact hok.new q b1 h1,hok.maps,hok.old,hok.next⟩
theorem keeps_write(hk:Keeps h0 h){r:Nat}{b:Blk}(hb:h.new r=some b)(hr:h0.next≤r)(hp:∀q∈b.par,h0.next≤q)(o:Nat)(vs:List Value) :Keeps h0 (h.write r b o vs):=
 ⟨hk.base,hk.old,hk.next,fun q hq=>by
  rw [write_new,if_neg (by omega),if_neg (fun hm=>by have:=hp q (by simpa using hm); omega)]
  exact hk.new q hq,hk.maps,by
  have h1:=hk.low
  have h2:=fold_min_ge b.par r hr hp
  show min h0.low h0.next≤min h.low (b.par.foldl min r)
  omega,ok_write hk.ok hb o vs⟩
theorem splice_set{cs:List Value}{i:Nat}{v:Value}(hi:i<cs.length) :splice cs i [v]=cs.set i v:=by
 unfold splice
 rw [List.set_eq_take_append_cons_drop,if_pos hi]
 simp
theorem one_set{cs:List Value}(h1:oneCells cs=true){v:Value}(hv:okCell v=true)(i:Nat) :oneCells (cs.set i v)=true:=by
 unfold oneCells at*
 rw [List.all_eq_true] at*
 intro x hx
 rcases List.mem_or_eq_of_mem_set hx with h | h
 ·exact h1 x h
 ·rw [h]; exact hv
theorem adr_mine(r:Nat)(i:Nat) :adr (some ⟨r,0,none⟩) (i:Int)=⟨r,i,none⟩:=by
 unfold adr Addr.add
 simp only [Option.getD_some,Int.toNat_natCast,Nat.mul_one]
 split
 ·rename_i h; rw [h]
 ·simp
theorem Mine.st{lo:Nat}{a:Option Addr}{n c:Nat}{cs:List Value}(hm:Mine h lo a n c cs){i:Nat}(hi:i<cs.length){v:Value}(hv:okCell v=true) :
  ∃h',(∀(R:Type) (K:Hp→Option R),h.stC (adr a (i:Int)) [v] K=K h')∧Mine h' lo a n c (cs.set i v)∧(∀h0,Keeps h0 h→h0.next≤lo→Keeps h0 h')∧
   (∀r q b,a=some ⟨r,0,none⟩→h.new q=some b→r<q→h'.new q=some b)∧h'.next=h.next:=by
 rcases hm with ⟨rfl,h1,h2,rfl⟩ | ⟨r,rfl,hm⟩
 ·cases hi
 ·obtain ⟨b,g1,g2,g3,g4,g5⟩:=hm.blk
  refine ⟨h.write r b i [v],fun R K=> ?_, .inr ⟨r,rfl,hm.ge,by rw [List.length_set]; exact hm.len,one_set hm.one hv i,{b with cells:=splice b.cells i [v],par:=[]}, ?_,g2,g3, ?_,by simp⟩,fun h0 hk hlo=>keeps_write hk g1 (Nat.le_trans hlo hm.ge) (fun q hq=>Nat.le_trans hlo (g5 q hq).1) _ _,fun r' q b1 h0 h1 h2=> ?_,rfl⟩
  ·rw [adr_mine]
   unfold Hp.stC needC
   have:i+1≤b.cells.length:=by rw [g4]; exact hi
   simp [g1,g2,this,oneCells,hv]
  ·rw [write_new,if_pos rfl]
  ·show splice b.cells i [v]=_
   rw [g4]; exact splice_set hi
  ·cases h0
   rw [write_new,if_neg (by omega),if_neg (fun hm=>by have:=(g5 q (by simpa using hm)).2; omega)]
   exact h1
theorem Mine.ldI{lo:Nat}{a:Option Addr}{n c:Nat}{cs:List Value}(hm:Mine h lo a n c cs){i:Nat}{x:Int}(hi:cs[i]? =some (.int .i64 x))(K:Int→Option R) :ldI h .i64 (adr a (i:Int)) K=K x:=by
 rcases hm with ⟨rfl,h1,h2,rfl⟩ | ⟨r,rfl,hm⟩
 ·cases hi
 ·rw [adr_mine]
  exact ldI_of ((hm.cell i).trans hi) K
theorem Mine.at{lo:Nat}{a:Option Addr}{n c:Nat}{cs:List Value}(hm:Mine h lo a n c cs){i:Nat}(hi:i<cs.length)(K:Addr→Option R) :atC a n 1 (i:Int) K=K (adr a i):=by
 rcases hm with ⟨rfl,h1,h2,rfl⟩ | ⟨r,rfl,hm⟩
 ·cases hi
 ·exact atC_adr (by simp) (by omega) (by rw [hm.len]; omega) K
end
end Go.Proofs.Ytpfploolkmcalaa.AM
end
section
namespace Go.Proofs.Ytpfploolkmcalaa.AM
open Go
theorem start_ok(w:World) :HpOk (start w):=
 ⟨fun r b h=>(by cases h),fun r es h=>(by cases h),fun a v h=>by
  simp only [start] at h ⊢
  cases h1:decide (a.block<w.heap.size) <;>rw [h1] at h
  ·cases h
  ·exact of_decide_eq_true h1,Nat.le_refl _⟩
def IsRow(k:IntKind)(w:World)(a:Option Addr)(len cap:Nat)(zs:List Int) :Prop:=
 (a=none∧len=0∧cap=0∧zs=[])∨
 ∃x,a=some x∧len≤cap∧cap≤maxLen∧zs.length=cap∧(∀i,i<zs.length→w.cell? (x.add i)=some (.int k (zs.getD i 0)))∧∀n∈zs,(Lit.int k n).wf=true
theorem slice_block{P:Program}{W:World}{base:Nat}{t e:TypeId}{x:Addr}{len cap:Nat}(ht:P.underlying t=some (.slice e))(h:Value.okWide P W .any base t (.slice (some x) len cap)) :x.block<W.heap.size:=by
 simp only [Value.okWide,ht,Cell.okWide,Cell.ok] at h
 obtain ⟨_,_,_,_,row,cells,hs,_⟩:=h
 unfold World.shape? at hs
 split at hs
 ·rename_i c el rest hh
  rcases Nat.lt_or_ge x.block W.heap.size with h1 | h1
  ·exact h1
  ·rw [Array.getElem?_eq_none h1] at hh; cases hh
 ·cases hs
theorem ints_start{w:World}{a:Option Addr}{len cap:Nat}{zs:List Int}(hr:IsRow .i64 w a len cap zs)(hb:∀x,a=some x→x.block<w.heap.size) :Ints (start w) a len cap (zs.take len):=by
 rcases hr with ⟨rfl,rfl,rfl,rfl⟩ | ⟨x,rfl,h1,h2,h3,h4,h5⟩
 ·exact Sl.nil _ _
 ·refine ⟨by rw [List.length_take]; omega, .inl ⟨hb x rfl,h1⟩,fun i hi=> ?_⟩
  rw [List.length_take] at hi
  have:=h4 i (by omega)
  refine ⟨x,_,rfl,start_cell this rfl, ?_⟩
  rw [List.getElem_take]
  unfold IntE
  rw [List.getD_eq_getElem?_getD,List.getElem?_eq_getElem (by omega)]
  rfl
theorem flat_row{w:World}{a:Option Addr}{len cap:Nat}{zs:List Int}(hr:IsRow .i64 w a len cap zs)(hb:∀x,a=some x→x.block<w.heap.size) :flatB w.heap.size (.slice a len cap)=true:=by
 rcases hr with ⟨rfl,rfl,rfl,rfl⟩ | ⟨x,rfl,_⟩
 ·rfl
 ·exact decide_eq_true (hb x rfl)
end Go.Proofs.Ytpfploolkmcalaa.AM
end
