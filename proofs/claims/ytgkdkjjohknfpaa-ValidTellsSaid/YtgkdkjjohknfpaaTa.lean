/- Merged: Ta1 Ta2 Ta3 Ta4 Ta6 Ta5 Ta7a Ta8 Ta9a. Conditions: none. -/
import Derived.Test.YtgkdkjjohknfpaaRd
set_option linter.all false
section
namespace Go.Proofs.Ytgkdkjjohknfpaa.VM
set_option linter.unusedSectionVars false
open Go AM
abbrev ints(l:List Int) :List T:=l.map (.int .i64 ·)
def cond1(c:Bool)(v:Int) :List Int:=bif c then [v] else []
def readsL(x:Ins) :List Int:=cond1 (decide ((shOf x.op).k0=2)) x.a++(cond1 (decide ((shOf x.op).k1=2)) x.b++cond1 (decide ((shOf x.op).k2=2)) x.c)
abbrev numsV(l:List Int) :V:= .t (.list 1 (!l.isEmpty) (ints l))
theorem reads15(x:Ins) :vr 15 0 [.t (insT x)] e0=some (numsV (readsL x),e0):=by
 unfold insT
 rw [eq15,R15,of38,callK_some]
 unfold readsL
 generalize shOf x.op=s
 unfold shT
 rw [asTup_tup,consV_cons,asT_t,asA_agg,consT_cons,asS_str,consT_cons,asI_int,consT_cons,asI_int,consT_cons,asI_int,endT_nil,consV_cons,asT_t,asB_bool,endV_nil,endB_nil]
 rw [eq42,R42,callK_some,asG_agg,consV_cons,isPtr_ptr,consV_cons,isPtr_ptr,consV_cons,isPtr_ptr,endV_nil,consB_cons,asVar_var,consV_cons,asT_t,asI_int,consV_cons,asT_t,asI_int,consV_cons,asT_t,asI_int,consV_cons,asT_t,asI_int,consV_cons,asT_t,asI_int,endV_nil,endB_nil]
 cases decide (s.k0=2) <;>cases decide (s.k1=2) <;>cases decide (s.k2=2) <;>rfl
def writesB(x:Ins) :Bool:=decide ((shOf x.op).k0=1)
theorem writes16(x:Ins) :vr 16 0 [.t (insT x)] e0=some (.tup [.t (.int .i64 (bif writesB x then x.a else 0)), .t (.bool (writesB x))],e0):=by
 unfold insT
 rw [eq16,R16,of38,callK_some]
 unfold writesB
 generalize shOf x.op=s
 unfold shT
 rw [asTup_tup,consV_cons,asT_t,asA_agg,consT_cons,asS_str,consT_cons,asI_int,consT_cons,asI_int,consT_cons,asI_int,endT_nil,consV_cons,asT_t,asB_bool,endV_nil,endB_nil]
 cases decide (s.k0=1) <;>rfl
def nextL(x:Ins)(at_:Int) :List Int:=
 bif !isOp x.op || decide (x.op=0) then [] else bif decide (x.op=10) then [x.a] else bif decide (x.op=11) || decide (x.op=12) then [IntKind.i64.wrap (at_+1),x.c] else [IntKind.i64.wrap (at_+1)]
theorem next17(x:Ins)(at_:Int) :vr 11 0 [.t (insT x), .t (.int .i64 at_)] e0=some (numsV (nextL x at_),e0):=by
 unfold insT
 rw [eq11,R11,of38,callK_some]
 unfold nextL
 generalize shOf x.op=s
 unfold shT
 rw [asTup_tup,consV_cons,asT_t,asA_agg,consT_cons,asS_str,consT_cons,asI_int,consT_cons,asI_int,consT_cons,asI_int,endT_nil,consV_cons,asT_t,asB_bool,endV_nil,endB_nil]
 cases isOp x.op <;>cases decide (x.op=0) <;>cases decide (x.op=10) <;>cases decide (x.op=11) <;>cases decide (x.op=12) <;>rfl
def regsL(x:Ins) :List Int:=readsL x++cond1 (writesB x) x.a
theorem shape_cases(op:Int) :((shOf op).k0,(shOf op).k1,(shOf op).k2)∈[((0:Int),(0:Int),(0:Int)),(1,5,0),(1,2,0),(1,2,2),(1,3,2),(3,2,2),(1,3,0),(3,2,0),(4,0,0),(2,2,4)]:=by
 rcases sh_cases op with h | h
 ·rw [h.2]; simp [sh0]
 ·have h:=h.2
  generalize shOf op=s at h ⊢
  simp only [shL,List.mem_cons,List.not_mem_nil,or_false] at h
  rcases h with rfl | rfl | rfl | rfl | rfl | rfl | rfl | rfl | rfl | rfl | rfl | rfl | rfl <;>simp
abbrev codeTy :List Ty1:=[.int .i64, .int .i64, .int .i64, .list [.int .i64, .int .i64, .int .i64, .int .i64, .int .i64] true]
theorem ins_of{x:T}{ts:List T}(h:fits [.int .i64, .int .i64, .int .i64, .int .i64, .int .i64] ts) :∃y:Ins,T.agg ts=insT y∧(Lit.int .i64 y.op).wf=true∧(Lit.int .i64 y.a).wf=true∧(Lit.int .i64 y.b).wf=true∧(Lit.int .i64 y.c).wf=true∧(Lit.int .i64 y.n).wf=true:=by
 unfold fits at h
 obtain ⟨a,r,rfl,ha,h⟩:=h
 unfold fits at h
 obtain ⟨b,r,rfl,hb,h⟩:=h
 unfold fits at h
 obtain ⟨c,r,rfl,hc,h⟩:=h
 unfold fits at h
 obtain ⟨d,r,rfl,hd,h⟩:=h
 unfold fits at h
 obtain ⟨e,r,rfl,he,h⟩:=h
 unfold fits at h
 subst h
 unfold fit1 at ha hb hc hd he
 obtain ⟨a,rfl,wa⟩:=ha
 obtain ⟨b,rfl,wb⟩:=hb
 obtain ⟨c,rfl,wc⟩:=hc
 obtain ⟨d,rfl,wd⟩:=hd
 obtain ⟨e,rfl,we⟩:=he
 exact ⟨⟨a,b,c,d,e⟩,rfl,wa,wb,wc,wd,we⟩
theorem list_ins :∀(l:List T),(∀y∈l,∃x:Ins,y=insT x)→∃m:List Ins,l=m.map insT
 | [],_=>⟨[],rfl⟩
 | y::l,h=>by
  obtain ⟨x,rfl⟩:=h y (by simp)
  obtain ⟨m,rfl⟩:=list_ins l fun z hz=>h z (List.mem_cons_of_mem _ hz)
  exact ⟨x::m,rfl⟩
theorem wf64{n:Int}(w1:(Lit.int .i64 n).wf=true) : -9223372036854775808≤n∧n<9223372036854775808:=by
 simp [Lit.wf,IntKind.min,IntKind.max,IntKind.signed,IntKind.bits] at w1
 omega
theorem code_of{x:T}(h:FitT codeTy true x) :∃r a i z l,x=cdT r a i z l∧l.length≤maxLen∧(z=false→l=[])∧(-9223372036854775808≤r∧r<9223372036854775808):=by
 obtain ⟨ts,rfl,h⟩:=h
 unfold fits at h
 obtain ⟨r,t,rfl,hr,h⟩:=h
 unfold fits at h
 obtain ⟨a,t,rfl,ha,h⟩:=h
 unfold fits at h
 obtain ⟨i,t,rfl,hi,h⟩:=h
 unfold fits at h
 obtain ⟨l,t,rfl,hl,h⟩:=h
 unfold fits at h
 subst h
 unfold fit1 at hr ha hi hl
 obtain ⟨r,rfl,wr⟩:=hr
 obtain ⟨a,rfl,wa⟩:=ha
 obtain ⟨i,rfl,wi⟩:=hi
 obtain ⟨z,l,rfl,h1,h2,h3⟩:=hl
 obtain ⟨m,rfl⟩:=list_ins l fun y hy=>by
  obtain ⟨ts,rfl,h4⟩:=h3 y hy
  obtain ⟨x,hx,_⟩:=ins_of (x:=packT true ts) h4
  exact ⟨x,hx⟩
 exact ⟨r,a,i,z,m,rfl,by simpa using h1,fun hz=>by simpa using h2 hz,wf64 wr⟩
theorem few13(r a i:Int)(z:Bool)(l:List Ins) :vr 9 0 [.t (cdT r a i z l)] e0=some (.t (.bool (decide (l.length≤300))),e0):=by
 unfold cdT
 rw [eq9,R9]
 have:decide (((l.map insT).length:Int)≤300)=decide (l.length≤300):=decide_eq_decide.2 (by rw [List.length_map]; omega)
 rw [this]
/-! ### registers as bits -/
abbrev Bt :=BitVec 64×BitVec 64
def btT(b:Bt) :T:= .agg [.int .u64 (b.1.toNat:Int), .int .u64 (b.2.toNat:Int)]
theorem ofI64(x:BitVec 64) :BitVec.ofInt 64 (x.toNat:Int)=x:=by
 rw [BitVec.ofInt_natCast,BitVec.ofNat_toNat,BitVec.setWidth_eq]
theorem wrapU(x:BitVec 64) :IntKind.u64.wrap (x.toNat:Int)=(x.toNat:Int):=by
 have:=x.isLt
 show ((x.toNat:Int) % 18446744073709551616)=_
 omega
theorem andU(x y:BitVec 64) :bitsI .and .u64 (x.toNat:Int) (y.toNat:Int)=((x &&&y).toNat:Int):=by
 unfold bitsI
 show IntKind.u64.wrap (((BitVec.ofInt 64 (x.toNat:Int) &&&BitVec.ofInt 64 (y.toNat:Int)).toNat:Nat):Int)=_
 rw [ofI64,ofI64,wrapU]
theorem orU(x y:BitVec 64) :bitsI .or .u64 (x.toNat:Int) (y.toNat:Int)=((x ||| y).toNat:Int):=by
 unfold bitsI
 show IntKind.u64.wrap (((BitVec.ofInt 64 (x.toNat:Int) ||| BitVec.ofInt 64 (y.toNat:Int)).toNat:Nat):Int)=_
 rw [ofI64,ofI64,wrapU]
theorem low6 :∀m,m<128→bitsI .and .i64 ((m:Nat):Int) 63=((m % 64:Nat):Int):=by decide+kernel
theorem high6 :∀m,m<128→shrI .i64 ((m:Nat):Int) 6=((m / 64:Nat):Int):=by decide+kernel
theorem one64 :∀k,k<64→shlI .u64 1 ((k:Nat):Int)=((BitVec.twoPow 64 k).toNat:Int):=by decide+kernel
def bothB(a b:Bt) :Bt:=(a.1 &&&b.1,a.2 &&&b.2)
def withB(b:Bt)(n:Nat) :Bt:=bif decide (n<64) then (b.1 ||| BitVec.twoPow 64 (n % 64),b.2) else (b.1,b.2 ||| BitVec.twoPow 64 (n % 64))
def hasB(b:Bt)(n:Nat) :Bool:=bif decide (n<64) then b.1.getLsbD (n % 64) else b.2.getLsbD (n % 64)
theorem both77(a b:Bt) :vr 77 0 [.t (btT a), .t (btT b)] e0=some (.t (btT (bothB a b)),e0):=by
 unfold btT
 rw [eq77,R77,andU,andU]
 rfl
theorem with78(b:Bt)(n:Nat)(h:n<128) :vr 78 0 [.t (btT b), .t (.int .i64 n)] e0=some (.t (btT (withB b n)),e0):=by
 unfold btT
 rw [eq78,R78,high6 n h,low6 n h,one64 _ (Nat.mod_lt _ (by decide))]
 have h0:decide ((0:Int)≤((n / 64:Nat):Int))=true:=decide_eq_true (by omega)
 have h1:decide (((n / 64:Nat):Int)<2)=true:=decide_eq_true (by omega)
 have h2:decide ((0:Int)≤((n % 64:Nat):Int))=true:=decide_eq_true (by omega)
 rw [h0,h1,h2]
 unfold withB
 by_cases hn:n<64
 ·have e:n / 64=0:=by omega
  rw [decide_eq_true hn,e]
  show some (V.t (.agg [.int .u64 (bitsI .or .u64 _ _), .int .u64 _]),_)=_
  rw [orU]
  rfl
 ·have e:n / 64=1:=by omega
  rw [decide_eq_false hn,e]
  show some (V.t (.agg [.int .u64 _, .int .u64 (bitsI .or .u64 _ _)]),_)=_
  rw [orU]
  rfl
theorem bitU(x:BitVec 64)(k:Nat)(h:k<64) :decide (bitsI .and .u64 (shrI .u64 (x.toNat:Int) (k:Int)) 1=1)=x.getLsbD k:=by
 have e:shrI .u64 (x.toNat:Int) (k:Int)=((x>>>k).toNat:Int):=by
  unfold shrI
  have:min ((k:Int)).toNat IntKind.u64.bits=k:=by show min ((k:Int)).toNat 64=k; omega
  rw [this,BitVec.toNat_ushiftRight,Nat.shiftRight_eq_div_pow,Int.fdiv_eq_ediv_of_nonneg _ (by exact Int.le_of_lt (Int.pow_pos (by decide)))]
  simp
 have e1:(1:Int)=(((1#64:BitVec 64)).toNat:Int):=rfl
 rw [e,e1,andU]
 have e2:((x>>>k) &&&1#64).toNat=x.toNat / 2^k % 2:=by
  rw [BitVec.toNat_and,BitVec.toNat_ushiftRight,Nat.shiftRight_eq_div_pow]
  exact Nat.and_one_is_mod _
 rw [e2]
 unfold BitVec.getLsbD
 rw [Nat.testBit_eq_decide_div_mod_eq]
 apply decide_eq_decide.2
 show ((x.toNat / 2^k % 2:Nat):Int)=((1:Nat):Int)↔_
 omega
theorem has39(b:Bt)(n:Nat)(h:n<128) :vr 39 0 [.t (btT b), .t (.int .i64 n)] e0=some (.t (.bool (hasB b n)),e0):=by
 unfold btT
 rw [eq39,R39,high6 n h,low6 n h]
 have h0:decide ((0:Int)≤((n / 64:Nat):Int))=true:=decide_eq_true (by omega)
 have h1:decide (((n / 64:Nat):Int)<2)=true:=decide_eq_true (by omega)
 have h2:decide ((0:Int)≤((n % 64:Nat):Int))=true:=decide_eq_true (by omega)
 rw [h0,h1,h2]
 unfold hasB
 by_cases hn:n<64
 ·have e:n / 64=0:=by omega
  rw [decide_eq_true hn,e]
  show some (V.t (.bool (decide (bitsI .and .u64 (shrI .u64 _ _) 1=1))),_)=_
  rw [bitU _ _ (Nat.mod_lt _ (by decide))]
  rfl
 ·have e:n / 64=1:=by omega
  rw [decide_eq_false hn,e]
  show some (V.t (.bool (decide (bitsI .and .u64 (shrI .u64 _ _) 1=1))),_)=_
  rw [bitU _ _ (Nat.mod_lt _ (by decide))]
  rfl
theorem has_both(a b:Bt)(n:Nat) :hasB (bothB a b) n=(hasB a n &&hasB b n):=by
 unfold hasB bothB
 by_cases hn:n<64
 ·rw [decide_eq_true hn]; simp
 ·rw [decide_eq_false hn]; simp
theorem has_with(b:Bt)(m n:Nat)(hm:m<128)(hn:n<128) :hasB (withB b m) n=(hasB b n || decide (m=n)):=by
 unfold hasB withB
 by_cases h1:m<64 <;>by_cases h2:n<64
 ·rw [decide_eq_true h1,decide_eq_true h2]
  simp only [cond_true,BitVec.getLsbD_or,BitVec.getLsbD_twoPow]
  congr 1
  rw [decide_eq_true (by omega:m % 64<64),Bool.true_and]
  exact decide_eq_decide.2 (by omega)
 ·rw [decide_eq_true h1,decide_eq_false h2,decide_eq_false (by omega:¬m=n),Bool.or_false]
  rfl
 ·rw [decide_eq_false h1,decide_eq_true h2,decide_eq_false (by omega:¬m=n),Bool.or_false]
  rfl
 ·rw [decide_eq_false h1,decide_eq_false h2]
  simp only [cond_false,BitVec.getLsbD_or,BitVec.getLsbD_twoPow]
  congr 1
  rw [decide_eq_true (by omega:m % 64<64),Bool.true_and]
  exact decide_eq_decide.2 (by omega)
theorem bt_ext{a b:Bt}(h:∀n,n<128→hasB a n=hasB b n) :a=b:=by
 obtain ⟨a1,a2⟩:=a
 obtain ⟨b1,b2⟩:=b
 have e1:a1=b1:=BitVec.eq_of_getLsbD_eq fun i hi=>by
  have:=h i (by omega)
  unfold hasB at this
  rw [decide_eq_true hi,Nat.mod_eq_of_lt hi] at this
  exact this
 have e2:a2=b2:=BitVec.eq_of_getLsbD_eq fun i hi=>by
  have:=h (64+i) (by omega)
  unfold hasB at this
  rw [decide_eq_false (by omega:¬64+i<64),(by omega:(64+i) % 64=i)] at this
  exact this
 rw [e1,e2]
def SubB(a b:Bt) :Prop:=∀n,n<128→hasB a n=true→hasB b n=true
def cntB(b:Bt) :Nat:=((List.range 128).filter (hasB b)).length
theorem cnt_le(b:Bt) :cntB b≤128:=by
 unfold cntB
 exact Nat.le_trans (List.length_filter_le _ _) (by simp)
theorem filter_lt{l:List Nat}{p q:Nat→Bool}(h:∀n∈l,p n=true→q n=true) :(l.filter p).length≤(l.filter q).length∧∀m∈l,p m=false→q m=true→(l.filter p).length<(l.filter q).length:=by
 induction l with
 | nil=>exact ⟨Nat.le_refl _,fun m hm=>absurd hm (by simp)⟩
 | cons x l ih=>
  obtain ⟨i1,i2⟩:=ih fun n hn=>h n (List.mem_cons_of_mem _ hn)
  have hx:=h x (by simp)
  constructor
  ·cases hp:p x <;>cases hq:q x <;>simp only [List.filter_cons,hp,hq,if_true,if_false,Bool.false_eq_true,List.length_cons] <;>first | omega | (rw [hp,hq] at hx; exact absurd (hx rfl) (by simp))
  ·intro m hm h1 h2
   rcases List.mem_cons.1 hm with rfl | hm
   ·simp only [List.filter_cons,h1,h2,if_true,if_false,Bool.false_eq_true,List.length_cons]
    omega
   ·have:=i2 m hm h1 h2
    cases hp:p x <;>cases hq:q x <;>simp only [List.filter_cons,hp,hq,if_true,if_false,Bool.false_eq_true,List.length_cons] <;>first | omega | (rw [hp,hq] at hx; exact absurd (hx rfl) (by simp))
theorem both_cnt{a b:Bt}(h:bothB a b ≠b) :cntB (bothB a b)<cntB b:=by
 have hx:∃n,n<128∧¬hasB (bothB a b) n=hasB b n:=by
  refine Classical.byContradiction fun hc=>h (bt_ext fun n hn=> ?_)
  exact Classical.byContradiction fun hd=>hc ⟨n,hn,hd⟩
 obtain ⟨n,hn,hd⟩:=hx
 refine (filter_lt (l:=List.range 128) (p:=hasB (bothB a b)) (q:=hasB b) fun n _ hp=> ?_).2 n (by simpa using hn) ?_ ?_
 ·rw [has_both] at hp
  simp only [Bool.and_eq_true] at hp
  exact hp.2
 ·rw [has_both]
  revert hd
  rw [has_both]
  cases hasB a n <;>cases hasB b n <;>simp
 ·revert hd
  rw [has_both]
  cases hasB a n <;>cases hasB b n <;>simp
theorem both_iff{a b:Bt} :bothB a b=b↔SubB b a:=by
 constructor
 ·intro h n hn hb
  rw [←h,has_both,Bool.and_eq_true] at hb
  exact hb.1
 ·intro h
  refine bt_ext fun n hn=> ?_
  rw [has_both]
  have:=h n hn
  revert this
  cases hasB a n <;>cases hasB b n <;>simp
end Go.Proofs.Ytgkdkjjohknfpaa.VM
end
section
namespace Go.Proofs.Ytgkdkjjohknfpaa.VM
set_option linter.unusedSectionVars false
open Go AM
abbrev Fl :=List (Option Bt)
def bitsL(F:Fl) :List T:=F.map fun o=>btT (o.getD (0,0))
def rchL(F:Fl) :List T:=F.map fun o=> .bool o.isSome
def chgB(b:Bt)(k:Nat)(F:Fl) :Bool:=match F[k]? with | some (some c)=> !decide (bothB b c=c) | _=>true
def newB(b:Bt)(k:Nat)(F:Fl) :Bt:=match F[k]? with | some (some c)=>bothB b c | _=>b
abbrev headC(r a i:Int)(z:Bool)(l:List T)(p q:Nat) :List V:=[.t (.int .i64 r), .t (.int .i64 a), .t (.int .i64 i), .t (.list 5 z l), .buf p, .buf q]
abbrev stO(h:List V)(B R todo:List T) :Bs:=[(0, .var [.ptr 1 0 0]),(1, .var h),(2, .arr true 2 true B),(3, .arr true 1 true R),(4, .var [.buf 5]),(5, .arr true 1 true todo)]
abbrev stN(h:List V)(B R todo:List T) :Bs:=[(0, .var [.ptr 1 0 0]),(1, .var h),(2, .arr true 2 true B),(3, .arr true 1 true R),(4, .var [.buf 500]),(500, .arr true 1 true todo)]
theorem bits_set(F:Fl)(k:Nat)(b:Bt) :bitsL (F.set k (some b))=(bitsL F).set k (btT b):=by
 unfold bitsL
 rw [List.map_set]
 rfl
theorem rch_set(F:Fl)(k:Nat)(b:Bt) :rchL (F.set k (some b))=(rchL F).set k (.bool true):=by
 unfold rchL
 rw [List.map_set]
 rfl
theorem bits_at{F:Fl}{k:Nat}{o:Option Bt}(h:F[k]? =some o) :(bitsL F)[k]? =some (btT (o.getD (0,0))):=by
 unfold bitsL
 rw [List.getElem?_map,h]
 rfl
theorem rch_at{F:Fl}{k:Nat}{o:Option Bt}(h:F[k]? =some o) :(rchL F)[k]? =some (.bool o.isSome):=by
 unfold rchL
 rw [List.getElem?_map,h]
 rfl
theorem bits_len(F:Fl) :(bitsL F).length=F.length:=by unfold bitsL; exact List.length_map _
theorem rch_len(F:Fl) :(rchL F).length=F.length:=by unfold rchL; exact List.length_map _
theorem bt_dec(p q:Bt) :(decide ((p.1.toNat:Int)=(q.1.toNat:Int)) &&(decide ((p.2.toNat:Int)=(q.2.toNat:Int)) &&true))=decide (p=q):=by
 obtain ⟨p1,p2⟩:=p
 obtain ⟨q1,q2⟩:=q
 rw [Bool.and_true,←Bool.decide_and]
 refine decide_eq_decide.2 ⟨fun ⟨h1,h2⟩=> ?_,fun h=> ?_⟩
 ·have e1:p1=q1:=BitVec.eq_of_toNat_eq (Int.ofNat.inj h1)
  have e2:p2=q2:=BitVec.eq_of_toNat_eq (Int.ofNat.inj h2)
  rw [e1,e2]
 ·cases h
  exact ⟨rfl,rfl⟩
theorem come_join(k:Nat)(b:Bt)(r a i:Int)(z:Bool)(l B R todo:List T)(h1:k<B.length)(h2:k<R.length)(ht:todo.length<1000000000) :
  J76_4 (k:Int) r a i z l true B true R true todo [.int .u64 (b.1.toNat:Int), .int .u64 (b.2.toNat:Int)]=
   some (.tup [],⟨stN (headC r a i z l 2 3) (B.set k (btT b)) (R.set k (.bool true)) (todo++[.int .i64 (k:Int)]),[500,501,502,503,504,505]⟩):=by
 have e:(([T.int .u64 (b.1.toNat:Int),T.int .u64 (b.2.toNat:Int)]:List T).drop 0).take 2=[T.int .u64 (b.1.toNat:Int),T.int .u64 (b.2.toNat:Int)]:=rfl
 have n0:decide ((0:Int)≤(k:Int))=true:=decide_eq_true (by omega)
 have n1:decide ((k:Int)<(R.length:Int))=true:=decide_eq_true (by omega)
 have n2:decide ((k:Int)<(B.length:Int))=true:=decide_eq_true (by omega)
 have n3:(decide ((todo.length+1)*(8+1)≤70368744177664) &&decide (8≤1048576))=true:=by
  rw [decide_eq_true (by omega:(todo.length+1)*(8+1)≤70368744177664)]
  rfl
 rw [J76_4_eq,RJ76_4,e,consT_cons,asI_int,consT_cons,asI_int,endT_nil,n0,n1,bTA,needC_t,bTA,needC_t,Int.toNat_natCast,setT_at _ h2,n2,needC_t,needC_t,setT_at _ h1,n3,needC_t]
 rfl
theorem come76(k:Nat)(b:Bt)(r a i:Int)(z:Bool)(l:List T)(F:Fl)(todo:List T)(hk:k<F.length)(ht:todo.length<1000000000) :
  vr 76 0 [.t (.int .i64 (k:Int)), .t (btT b), .ptr 0 0 0, .ptr 4 0 0] ⟨stO (headC r a i z l 2 3) (bitsL F) (rchL F) todo,[]⟩=
   some (.tup [],⟨bif chgB b k F then stN (headC r a i z l 2 3) (bitsL (F.set k (some (newB b k F)))) (rchL (F.set k (some (newB b k F)))) (todo++[.int .i64 (k:Int)]) else stO (headC r a i z l 2 3) (bitsL F) (rchL F) todo,[500,501,502,503,504,505]⟩):=by
 have n0:decide ((0:Int)≤(k:Int))=true:=decide_eq_true (by omega)
 have n1:decide ((k:Int)<((rchL F).length:Int))=true:=decide_eq_true (by rw [rch_len]; omega)
 have n2:decide ((k:Int)<((bitsL F).length:Int))=true:=decide_eq_true (by rw [bits_len]; omega)
 have hF:F[k]? =some F[k]:=List.getElem?_eq_getElem hk
 have hj:=come_join k (newB b k F) r a i z l (bitsL F) (rchL F) todo (by rw [bits_len]; exact hk) (by rw [rch_len]; exact hk) ht
 rw [←bits_set,←rch_set F k (newB b k F)] at hj
 have hb77:=fun c=>both77 b c
 unfold btT at hb77
 rw [btT,eq76,R76,n0,n1,bTA,needC_t,Int.toNat_natCast,getT_at (rch_at hF),asB_bool]
 have hc:chgB b k F=match F[k] with | some c=> !decide (bothB b c=c) | none=>true:=by
  unfold chgB
  rw [hF]
  cases F[k] <;>rfl
 have hn:newB b k F=match F[k] with | some c=>bothB b c | none=>b:=by
  unfold newB
  rw [hF]
  cases F[k] <;>rfl
 cases ho:F[k] with
 | none=>
  rw [ho] at hc hn
  have hc:chgB b k F=true:=hc
  have hn:newB b k F=b:=hn
  rw [hn] at hj ⊢
  rw [hc,ct,Option.isSome_none,cf]
  exact hj
 | some c=>
  rw [ho] at hc hn hF
  have hc:chgB b k F= !decide (bothB b c=c):=hc
  have hn:newB b k F=bothB b c:=hn
  have hg:=bits_at hF
  rw [hc]
  rw [hn] at hj ⊢
  rw [Option.isSome_some,ct,n2,bTA,needC_t,getT_at hg]
  show asA (.agg [_,_]) _=_
  rw [asA_agg,consT_cons,asI_int,consT_cons,asI_int,endT_nil]
  show callK (vr _ 0 [_, .t (.agg [.int .u64 (c.1.toNat:Int), .int .u64 (c.2.toNat:Int)])] ⟨[],[]⟩) _=_
  rw [hb77 c,callK_some,asT_t,asA_agg,consT_cons,asI_int,consT_cons,asI_int,endT_nil,endB_nil,needC_t,getT_at hg]
  show asA (.agg [_,_]) _=_
  rw [asA_agg,consT_cons,asI_int,consT_cons,asI_int,endT_nil]
  show (bif (decide ((((bothB b c).1.toNat:Nat):Int)=((c.1.toNat:Nat):Int)) &&(decide ((((bothB b c).2.toNat:Nat):Int)=((c.2.toNat:Nat):Int)) &&true)) then _ else _)=_
  rw [bt_dec]
  cases decide (bothB b c=c)
  ·rw [cf,bNF,ct]
   exact hj
  ·rw [ct,bNT,cf]
end Go.Proofs.Ytgkdkjjohknfpaa.VM
end
section
namespace Go.Proofs.Ytgkdkjjohknfpaa.VM
set_option linter.unusedSectionVars false
open Go AM
def comeF(b:Bt)(x:Fl×List Int)(k:Int) :Fl×List Int:=bif chgB b k.toNat x.1 then (x.1.set k.toNat (some (newB b k.toNat x.1)),x.2++[k]) else x
theorem come_len(b:Bt)(x:Fl×List Int)(k:Int) :(comeF b x k).1.length=x.1.length:=by
 unfold comeF
 cases chgB b k.toNat x.1
 ·rfl
 ·exact List.length_set ..
theorem come_todo(b:Bt)(x:Fl×List Int)(k:Int) :(comeF b x k).2.length≤x.2.length+1:=by
 unfold comeF
 cases chgB b k.toNat x.1
 ·exact Nat.le_succ _
 ·rw [ct,List.length_append]; exact Nat.le_refl _
theorem ints_at{l:List Int}{i:Nat}(h:i<l.length) :(ints l)[i]? =some (.int .i64 l[i]):=by
 unfold ints
 rw [List.getElem?_map,List.getElem?_eq_getElem h]
 rfl
theorem ints_len(l:List Int) :(ints l).length=l.length:=List.length_map _
theorem thru13(nz:Bool)(ks:List Int)(c0 c1 c2:Int)(cz:Bool)(cl:List T)(r a i:Int)(z:Bool)(l:List T)(b:Bt)(hb:ks.length≤1000) :
  ∀(m j:Nat) (F:Fl) (todo:List Int),m+j=ks.length→(∀k∈ks,0≤k∧k<(F.length:Int))→todo.length+m<1000000000→
  L56_13 nz (ints ks) ((ks.length:Nat):Int) (j:Int) c0 c1 c2 cz cl r a i z l true (bitsL F) true (rchL F) true (ints todo) [.int .u64 (b.1.toNat:Int), .int .u64 (b.2.toNat:Int)]=
   L56_5 c0 c1 c2 cz cl r a i z l true (bitsL ((ks.drop j).foldl (comeF b) (F,todo)).1) true (rchL ((ks.drop j).foldl (comeF b) (F,todo)).1) true (ints ((ks.drop j).foldl (comeF b) (F,todo)).2)
 | 0,j,F,todo,h,_,_=>by
  have d:decide ((j:Int)<((ks.length:Nat):Int))=false:=decide_eq_false (by omega)
  rw [L56_13_eq,RL56_13,d,cf,List.drop_of_length_le (by omega)]
  rfl
 | m+1,j,F,todo,h,hk,ht=>by
  have d:decide ((j:Int)<((ks.length:Nat):Int))=true:=decide_eq_true (by omega)
  have n0:decide ((0:Int)≤(j:Int))=true:=decide_eq_true (by omega)
  have hw:IntKind.i64.wrap ((j:Int)+1)=((j+1:Nat):Int):=by rw [wrap64 (by omega) (by omega)]; simp
  have hlt:j<ks.length:=by omega
  have e:(([T.int .u64 (b.1.toNat:Int),T.int .u64 (b.2.toNat:Int)]:List T).drop 0).take 2=[T.int .u64 (b.1.toNat:Int),T.int .u64 (b.2.toNat:Int)]:=rfl
  obtain ⟨k1,k2⟩:=hk ks[j] (List.getElem_mem hlt)
  have hkn:((ks[j]).toNat:Int)=ks[j]:=by omega
  have hkl:(ks[j]).toNat<F.length:=by omega
  have hc:=come76 (ks[j]).toNat b r a i z l F (ints todo) hkl (by rw [ints_len]; omega)
  rw [hkn] at hc
  unfold btT at hc
  have ih:=fun F' todo'=>thru13 nz ks c0 c1 c2 cz cl r a i z l b hb m (j+1) F' todo' (by omega)
  rw [L56_13_eq,RL56_13,d,ct,needC_true n0,Int.toNat_natCast,getT_at (ints_at hlt),asI_int,e,consT_cons,asI_int,consT_cons,asI_int,endT_nil,hc,callK_some,hw,List.drop_eq_getElem_cons hlt,List.foldl_cons]
  have hcm:comeF b (F,todo) ks[j]=bif chgB b (ks[j]).toNat F then (F.set (ks[j]).toNat (some (newB b (ks[j]).toNat F)),todo++[ks[j]]) else (F,todo):=rfl
  rw [hcm]
  cases chgB b (ks[j]).toNat F with
  | false=>
   have hf:fitsH (.tup []) [(0,(.var [(.ptr 1 0 0)])),(1,(.var [(.t (.int .i64)),(.t (.int .i64)),(.t (.int .i64)),(.t (.list 5)),(.buf 2),(.buf 3)])),(2,(.arr 2)),(3,(.arr 1)),(4,(.var [(.buf 5)])),(5,(.arr 1))] (.tup []) (stO (headC r a i z l 2 3) (bitsL F) (rchL F) (ints todo))=true:=by rfl
   rw [cf,cf,hf,ct,asTup_tup,endV_nil,consB_cons,asVar_var,consV_cons,isPtr_ptr,endV_nil,consB_cons,asVar_var,consV_cons,asT_t,asI_int,consV_cons,asT_t,asI_int,consV_cons,asT_t,asI_int,consV_cons,asT_t,asL_list,consV_cons,isBuf_buf,consV_cons,isBuf_buf,endV_nil,consB_cons,asArr_arr,consB_cons,asArr_arr,consB_cons,asVar_var,consV_cons,isBuf_buf,endV_nil,consB_cons,asArr_arr,endB_nil]
   exact ih F todo hk (by omega)
  | true=>
   have hf:fitsH (.tup []) [(0,(.var [(.ptr 1 0 0)])),(1,(.var [(.t (.int .i64)),(.t (.int .i64)),(.t (.int .i64)),(.t (.list 5)),(.buf 2),(.buf 3)])),(2,(.arr 2)),(3,(.arr 1)),(4,(.var [(.buf 5)])),(5,(.arr 1))] (.tup []) (stN (headC r a i z l 2 3) (bitsL (F.set (ks[j]).toNat (some (newB b (ks[j]).toNat F)))) (rchL (F.set (ks[j]).toNat (some (newB b (ks[j]).toNat F)))) (ints todo++[.int .i64 ks[j]]))=false:=by rfl
   rw [ct,ct,hf,cf,asTup_tup,endV_nil,consB_cons,asVar_var,consV_cons,isPtr_ptr,endV_nil,consB_cons,asVar_var,consV_cons,asT_t,asI_int,consV_cons,asT_t,asI_int,consV_cons,asT_t,asI_int,consV_cons,asT_t,asL_list,consV_cons,isBuf_buf,consV_cons,isBuf_buf,endV_nil,consB_cons,asArr_arr,consB_cons,asArr_arr,consB_cons,asVar_var,consV_cons,isBuf_buf,endV_nil,consB_cons,asArr_arr,endB_nil]
   have hi:ints todo++[T.int .i64 ks[j]]=ints (todo++[ks[j]]):=by unfold ints; rw [List.map_append]; rfl
   rw [hi]
   exact ih _ _ (by rw [List.length_set]; exact hk) (by rw [List.length_append]; simp only [List.length_cons,List.length_nil]; omega)
def wO :Option Bt→Nat
 | none=>129
 | some b=>cntB b
def wF(F:Fl) :Nat:=(F.map wO).sum
theorem wF_set :∀(F:Fl) (k:Nat) (o:Option Bt) (h:k<F.length),wF (F.set k o)+wO F[k]=wF F+wO o
 | [],k,o,h=>absurd h (Nat.not_lt_zero _)
 | x::F,0,o,_=>by
  unfold wF
  simp only [List.set_cons_zero,List.map_cons,List.sum_cons,List.getElem_cons_zero]
  omega
 | x::F,k+1,o,h=>by
  have:=wF_set F k o (by simpa using h)
  unfold wF at this ⊢
  simp only [List.set_cons_succ,List.map_cons,List.sum_cons,List.getElem_cons_succ]
  omega
theorem new_less{b:Bt}{k:Nat}{F:Fl}(h:k<F.length)(hc:chgB b k F=true) :wO (some (newB b k F))<wO F[k]:=by
 have hF:F[k]? =some F[k]:=List.getElem?_eq_getElem h
 unfold chgB at hc
 unfold newB
 rw [hF] at hc ⊢
 cases ho:F[k] with
 | none=>exact Nat.lt_succ_of_le (cnt_le b)
 | some c=>
  rw [ho] at hc
  have hc:(!decide (bothB b c=c))=true:=hc
  rw [Bool.not_eq_true'] at hc
  exact both_cnt (of_decide_eq_false hc)
theorem come_w{b:Bt}{x:Fl×List Int}{k:Int}(h0:0≤k)(h:k<(x.1.length:Int)) :wF (comeF b x k).1+(comeF b x k).2.length≤wF x.1+x.2.length∧2*wF (comeF b x k).1+(comeF b x k).2.length≤2*wF x.1+x.2.length:=by
 unfold comeF
 cases hc:chgB b k.toNat x.1 with
 | false=>exact ⟨Nat.le_refl _,Nat.le_refl _⟩
 | true=>
  have hl:k.toNat<x.1.length:=by omega
  have h1:=new_less hl hc
  have h2:=wF_set x.1 k.toNat (some (newB b k.toNat x.1)) hl
  rw [ct,List.length_append]
  simp only [List.length_cons,List.length_nil]
  omega
theorem fold_w{b:Bt} :∀(ks:List Int) (x:Fl×List Int),(∀k∈ks,0≤k∧k<(x.1.length:Int))→(ks.foldl (comeF b) x).1.length=x.1.length∧wF (ks.foldl (comeF b) x).1+(ks.foldl (comeF b) x).2.length≤wF x.1+x.2.length∧2*wF (ks.foldl (comeF b) x).1+(ks.foldl (comeF b) x).2.length≤2*wF x.1+x.2.length
 | [],x,_=>⟨rfl,Nat.le_refl _,Nat.le_refl _⟩
 | k::ks,x,h=>by
  obtain ⟨a1,a2⟩:=h k (by simp)
  obtain ⟨c1,c2⟩:=come_w (b:=b) a1 a2
  obtain ⟨d0,d1,d2⟩:=fold_w ks (comeF b x k) fun q hq=>by rw [come_len]; exact h q (List.mem_cons_of_mem _ hq)
  rw [come_len] at d0
  rw [List.foldl_cons]
  exact ⟨d0,by omega,by omega⟩
end Go.Proofs.Ytgkdkjjohknfpaa.VM
end
section
namespace Go.Proofs.Ytgkdkjjohknfpaa.VM
set_option linter.unusedSectionVars false
open Go AM
def outB(x:Ins)(b:Bt) :Bt:=bif writesB x then withB b x.a.toNat else b
inductive Runs (L:List Ins):Fl→List Int→Fl→Prop
 | done (F:Fl):Runs L F [] F
 | step {F F':Fl} {ts:List Int} {t:Nat} {b:Bt} (h:t<L.length):F[t]? =some (some b)→Runs L ((nextL L[t] (t:Int)).foldl (comeF (outB L[t] b)) (F,ts)).1 ((nextL L[t] (t:Int)).foldl (comeF (outB L[t] b)) (F,ts)).2 F'→Runs L F (ts++[(t:Int)]) F'
structure FineL (L:List Ins):Prop where
 next:∀i (h:i<L.length),∀k∈nextL L[i] (i:Int),0≤k∧k<(L.length:Int)
 wr:∀i (h:i<L.length),writesB L[i]=true→0≤L[i].a∧L[i].a<128
 len:L.length≤400
def LiveT(F:Fl)(todo:List Int) :Prop:=∀t∈todo,0≤t∧t<(F.length:Int)∧∃b,F[t.toNat]? =some (some b)
theorem come_some{b:Bt}{x:Fl×List Int}{k:Int}{j:Nat}{c:Bt}(h:x.1[j]? =some (some c)) :∃d,(comeF b x k).1[j]? =some (some d):=by
 unfold comeF
 cases chgB b k.toNat x.1 with
 | false=>exact ⟨c,h⟩
 | true=>
  rw [ct]
  have hj:j<x.1.length:=by
   rcases Nat.lt_or_ge j x.1.length with hh | hh
   ·exact hh
   ·rw [List.getElem?_eq_none hh] at h; cases h
  by_cases e:k.toNat=j
  ·exact ⟨newB b k.toNat x.1,by rw [List.getElem?_set,if_pos e,if_pos (by omega)]⟩
  ·exact ⟨c,by rw [List.getElem?_set,if_neg e]; exact h⟩
theorem come_live{b:Bt}{x:Fl×List Int}{k:Int}(h:LiveT x.1 x.2)(h0:0≤k)(h1:k<(x.1.length:Int)) :LiveT (comeF b x k).1 (comeF b x k).2:=by
 intro t ht
 rw [come_len]
 by_cases hx:t∈x.2
 ·obtain ⟨a1,a2,c,a3⟩:=h t hx
  exact ⟨a1,a2,come_some a3⟩
 ·unfold comeF at ht ⊢
  cases hc:chgB b k.toNat x.1 with
  | false=>rw [hc,cf] at ht; exact absurd ht hx
  | true=>
   rw [hc,ct] at ht
   rcases List.mem_append.1 ht with ht | ht
   ·exact absurd ht hx
   ·have:t=k:=by simpa using ht
    subst this
    refine ⟨h0,h1,newB b t.toNat x.1, ?_⟩
    rw [ct,List.getElem?_set,if_pos rfl,if_pos (by omega)]
theorem fold_live{b:Bt} :∀(ks:List Int) (x:Fl×List Int),LiveT x.1 x.2→(∀k∈ks,0≤k∧k<(x.1.length:Int))→LiveT (ks.foldl (comeF b) x).1 (ks.foldl (comeF b) x).2
 | [],_,h,_=>h
 | k::ks,x,h,hk=>by
  obtain ⟨a1,a2⟩:=hk k (by simp)
  exact fold_live ks _ (come_live h a1 a2) fun q hq=>by rw [come_len]; exact hk q (List.mem_cons_of_mem _ hq)
theorem next_len(x:Ins)(i:Int) :(nextL x i).length≤2:=by
 unfold nextL
 cases !isOp x.op || decide (x.op=0)
 ·cases decide (x.op=10)
  ·cases decide (x.op=11) || decide (x.op=12)
   ·exact (by decide:1≤2)
   ·exact Nat.le_refl _
  ·exact (by decide:1≤2)
 ·exact Nat.zero_le _
abbrev flowS(r a i:Int)(z:Bool)(l:List T)(F:Fl) :St:=⟨[(500, .var (headC r a i z l 501 502)),(501, .arr true 2 true (bitsL F)),(502, .arr true 1 true (rchL F))],[500,501,502]⟩
theorem thru12(L:List Ins)(fl:FineL L)(r a i:Int)(z:Bool)(t:Nat)(ht:t<L.length)(F:Fl)(hF:F.length=L.length)(ts:List Int)(b:Bt)(hts:ts.length≤100000) :
  J56_12 (t:Int) r a i z (L.map insT) r a i z (L.map insT) true (bitsL F) true (rchL F) true (ints ts) [.int .u64 (b.1.toNat:Int), .int .u64 (b.2.toNat:Int)]=
   L56_5 r a i z (L.map insT) r a i z (L.map insT) true (bitsL ((nextL L[t] (t:Int)).foldl (comeF b) (F,ts)).1) true (rchL ((nextL L[t] (t:Int)).foldl (comeF b) (F,ts)).1) true (ints ((nextL L[t] (t:Int)).foldl (comeF b) (F,ts)).2):=by
 have n0:decide ((0:Int)≤(t:Int))=true:=decide_eq_true (by omega)
 have hg:(L.map insT)[t]? =some (insT L[t]):=by rw [List.getElem?_map,List.getElem?_eq_getElem ht]; rfl
 have hx:=next17 L[t] (t:Int)
 have hl:=next_len L[t] (t:Int)
 have hs:=thru13 (!(nextL L[t] (t:Int)).isEmpty) (nextL L[t] (t:Int)) r a i z (L.map insT) r a i z (L.map insT) b (by omega) (nextL L[t] (t:Int)).length 0 F ts (by omega) (fun k hk=>by rw [hF]; exact fl.next t ht k hk) (by omega)
 rw [List.drop_zero] at hs
 rw [←hs]
 rw [J56_12_eq,RJ56_12,needC_true n0,Int.toNat_natCast,getT_at hg]
 unfold insT at hx ⊢
 rw [asA_agg,consT_cons,asI_int,consT_cons,asI_int,consT_cons,asI_int,consT_cons,asI_int,consT_cons,asI_int,endT_nil,hx,callK_some]
 unfold numsV
 rw [asT_t,asL_list,endB_nil,ints_len]
 rfl
theorem thru5(L:List Ins)(fl:FineL L)(r a i:Int)(z:Bool) :∀(M:Nat) (F:Fl) (todo:List Int),2*wF F+todo.length≤M→F.length=L.length→wF F+todo.length≤100000→LiveT F todo→
  ∃F',Runs L F todo F'∧L56_5 r a i z (L.map insT) r a i z (L.map insT) true (bitsL F) true (rchL F) true (ints todo)=some (.ptr 500 0 0,flowS r a i z (L.map insT) F'):=by
 intro M
 induction M with
 | zero=>
  intro F todo hM hF hw hl
  have:todo=[]:=List.length_eq_zero_iff.1 (by omega)
  subst this
  exact ⟨F, .done F,by rw [L56_5_eq,RL56_5]; rfl⟩
 | succ M ih=>
  intro F todo hM hF hw hl
  rcases List.eq_nil_or_concat todo with rfl | ⟨ts,t,rfl⟩
  ·exact ⟨F, .done F,by rw [L56_5_eq,RL56_5]; rfl⟩
  ·rw [List.concat_eq_append] at hM hw hl ⊢
   obtain ⟨t0,t1,b,hb⟩:=hl t (by simp)
   obtain ⟨n,rfl⟩:∃n:Nat,t=(n:Int):=⟨t.toNat,by omega⟩
   rw [Int.toNat_natCast] at hb
   have hn:n<L.length:=by omega
   rw [List.length_append] at hM hw
   simp only [List.length_cons,List.length_nil] at hM hw
   have hlive:LiveT F ts:=fun q hq=>hl q (List.mem_append_left _ hq)
   obtain ⟨f0,f1,f2⟩:=fold_w (b:=outB L[n] b) (nextL L[n] (n:Int)) (F,ts) (fun k hk=>by rw [hF]; exact fl.next n hn k hk)
   dsimp only at f0 f1 f2
   obtain ⟨F',hr,he⟩:=ih _ _ (by omega) (f0.trans hF) (by omega) (fold_live (b:=outB L[n] b) (nextL L[n] (n:Int)) (F,ts) hlive fun k hk=>by rw [hF]; exact fl.next n hn k hk)
   refine ⟨F', .step hn hb hr, ?_⟩
   rw [←he,←thru12 L fl r a i z n hn F hF ts (outB L[n] b) (by omega)]
   have e1:((ints (ts++[(n:Int)])).length:Int)=((ts.length+1:Nat):Int):=by rw [ints_len,List.length_append]; rfl
   have d:decide ((0:Int)<((ts.length+1:Nat):Int))=true:=decide_eq_true (by omega)
   have hw1:IntKind.i64.wrap (((ts.length+1:Nat):Int) - 1)=(ts.length:Int):=by rw [wrap64 (by omega) (by omega)]; omega
   have n0:decide ((0:Int)≤(ts.length:Int))=true:=decide_eq_true (by omega)
   have n1:decide ((ts.length:Int)<((ts.length+1:Nat):Int))=true:=decide_eq_true (by omega)
   have n2:decide ((ts.length:Int)≤((ts.length+1:Nat):Int))=true:=decide_eq_true (by omega)
   have n3:decide ((0:Int)≤(n:Int))=true:=decide_eq_true (by omega)
   have n4:decide ((n:Int)<((bitsL F).length:Int))=true:=decide_eq_true (by rw [bits_len]; omega)
   have g1:(ints (ts++[(n:Int)]))[ts.length]? =some (.int .i64 (n:Int)):=by
    unfold ints
    rw [List.getElem?_map,List.getElem?_append_right (Nat.le_refl _),Nat.sub_self]
    rfl
   have g2:(L.map insT)[n]? =some (insT L[n]):=by rw [List.getElem?_map,List.getElem?_eq_getElem hn]; rfl
   have g3:(ints (ts++[(n:Int)])).take ts.length=ints ts:=by
    unfold ints
    rw [←List.map_take,List.take_left]
   have g4:=bits_at hb
   have hwr:=writes16 L[n]
   have hcut:∀K:List T→Option Res,cutN 1 true (ints (ts++[(n:Int)])) none (some (ts.length:Int)) K=K (ints ts):=by
    intro K
    unfold cutN
    have:(true &&true &&(1:Nat)==1 &&decide ((none:Option Int).getD 0=0) &&decide (0≤(some (ts.length:Int)).getD ((ints (ts++[(n:Int)])).length:Int)) &&decide ((some (ts.length:Int)).getD ((ints (ts++[(n:Int)])).length:Int)≤((ints (ts++[(n:Int)])).length:Int)))=true:=by
     show (true &&decide ((0:Int)≤(ts.length:Int)) &&decide ((ts.length:Int)≤((ints (ts++[(n:Int)])).length:Int)))=true
     rw [n0,e1,n2]
     rfl
    rw [needC_true this]
    show K ((ints (ts++[(n:Int)])).take ((ts.length:Int)).toNat)=_
    rw [Int.toNat_natCast,g3]
   rw [L56_5_eq,RL56_5,e1,d,ct,hw1,n0,n1,bTA,needC_t,Int.toNat_natCast,getT_at g1,asI_int,hcut,n3,n4,bTA,needC_t,Int.toNat_natCast,getT_at g4]
   show asA (.agg [_,_]) _=_
   rw [asA_agg,consT_cons,asI_int,consT_cons,asI_int,endT_nil,needC_t,getT_at g2]
   unfold insT at hwr ⊢
   rw [asA_agg,consT_cons,asI_int,consT_cons,asI_int,consT_cons,asI_int,consT_cons,asI_int,consT_cons,asI_int,endT_nil,hwr,callK_some,asTup_tup,consV_cons,asT_t,asI_int,consV_cons,asT_t,asB_bool,endV_nil,endB_nil]
   unfold outB
   cases hwb:writesB L[n] with
   | false=>rw [cf,cf]; rfl
   | true=>
    obtain ⟨w1,w2⟩:=fl.wr n hn hwb
    have h78:=with78 b (L[n]).a.toNat (by omega)
    have ha:(((L[n]).a.toNat:Nat):Int)=(L[n]).a:=by omega
    rw [ha] at h78
    unfold btT at h78
    rw [ct,ct]
    show callK (vr _ 0 [.t (.agg [.int .u64 (b.1.toNat:Int), .int .u64 (b.2.toNat:Int)]),_] ⟨[],[]⟩) _=_
    rw [ct,h78,callK_some,asT_t,asA_agg,consT_cons,asI_int,consT_cons,asI_int,endT_nil,endB_nil]
end Go.Proofs.Ytgkdkjjohknfpaa.VM
end
section
namespace Go.Proofs.Ytgkdkjjohknfpaa.VM
set_option linter.unusedSectionVars false
open Go AM
theorem SubB.refl(b:Bt) :SubB b b:=fun _ _ h=>h
theorem SubB.trans{a b c:Bt}(h:SubB a b)(g:SubB b c) :SubB a c:=fun n hn x=>g n hn (h n hn x)
theorem sub_both_r(a b:Bt) :SubB (bothB a b) b:=fun n _ h=>by
 rw [has_both,Bool.and_eq_true] at h
 exact h.2
theorem sub_both_l(a b:Bt) :SubB (bothB a b) a:=fun n _ h=>by
 rw [has_both,Bool.and_eq_true] at h
 exact h.1
structure CameT (F F':Fl) (td td':List Int):Prop where
 down:∀(j:Nat) (c:Bt),F[j]? =some (some c)→∃d,F'[j]? =some (some d)∧SubB d c
 new:∀(j:Nat) (d:Bt),F'[j]? =some (some d)→F[j]? =some (some d)∨(j:Int)∈td'
 todo:∀t,t∈td→t∈td'
theorem CameT.refl(F:Fl)(td:List Int) :CameT F F td td:=⟨fun _ c h=>⟨c,h,SubB.refl c⟩,fun _ _ h=> .inl h,fun _ h=>h⟩
theorem CameT.trans{F G H:Fl}{a b c:List Int}(h:CameT F G a b)(g:CameT G H b c) :CameT F H a c:=by
 refine ⟨fun j x hx=> ?_,fun j d hd=> ?_,fun t ht=>g.todo t (h.todo t ht)⟩
 ·obtain ⟨d,h1,h2⟩:=h.down j x hx
  obtain ⟨e,h3,h4⟩:=g.down j d h1
  exact ⟨e,h3,h4.trans h2⟩
 ·rcases g.new j d hd with h1 | h1
  ·rcases h.new j d h1 with h2 | h2
   ·exact .inl h2
   ·exact .inr (g.todo _ h2)
  ·exact .inr h1
theorem come_came{b:Bt}{x:Fl×List Int}{k:Int}(h0:0≤k)(h1:k<(x.1.length:Int)) :CameT x.1 (comeF b x k).1 x.2 (comeF b x k).2∧∃c,(comeF b x k).1[k.toNat]? =some (some c)∧SubB c b:=by
 have hk:k.toNat<x.1.length:=by omega
 have hF:x.1[k.toNat]? =some x.1[k.toNat]:=List.getElem?_eq_getElem hk
 unfold comeF
 cases hc:chgB b k.toNat x.1 with
 | false=>
  refine ⟨CameT.refl _ _, ?_⟩
  rw [cf]
  unfold chgB at hc
  rw [hF] at hc
  cases ho:x.1[k.toNat] with
  | none=>rw [ho] at hc; cases hc
  | some c=>
   rw [ho] at hc hF
   have hc:(!decide (bothB b c=c))=false:=hc
   rw [Bool.not_eq_false'] at hc
   exact ⟨c,hF,both_iff.1 (of_decide_eq_true hc)⟩
 | true=>
  rw [ct]
  have hset:∀j,(x.1.set k.toNat (some (newB b k.toNat x.1)))[j]? =if k.toNat=j then some (some (newB b k.toNat x.1)) else x.1[j]? :=by
   intro j
   rw [List.getElem?_set]
   by_cases e:k.toNat=j
   ·rw [if_pos e,if_pos e,if_pos (by omega)]
   ·rw [if_neg e,if_neg e]
  refine ⟨⟨fun j c hj=> ?_,fun j d hj=> ?_,fun t ht=>List.mem_append_left _ ht⟩,newB b k.toNat x.1, ?_, ?_⟩
  ·by_cases e:k.toNat=j
   ·refine ⟨newB b k.toNat x.1,by rw [hset,if_pos e], ?_⟩
    unfold newB
    rw [e,hj]
    exact sub_both_r b c
   ·exact ⟨c,by rw [hset,if_neg e]; exact hj,SubB.refl c⟩
  ·rw [hset] at hj
   by_cases e:k.toNat=j
   ·right
    have:(j:Int)=k:=by omega
    rw [this]
    simp
   ·rw [if_neg e] at hj
    exact .inl hj
  ·rw [hset,if_pos rfl]
  ·unfold newB
   rw [hF]
   cases x.1[k.toNat] with
   | none=>exact SubB.refl b
   | some c=>exact sub_both_l b c
theorem fold_came{b:Bt} :∀(ks:List Int) (x:Fl×List Int),(∀k∈ks,0≤k∧k<(x.1.length:Int))→
  CameT x.1 (ks.foldl (comeF b) x).1 x.2 (ks.foldl (comeF b) x).2∧∀k∈ks,∃c,(ks.foldl (comeF b) x).1[k.toNat]? =some (some c)∧SubB c b
 | [],x,_=>⟨CameT.refl _ _,fun k hk=>by simp at hk⟩
 | k::ks,x,h=>by
  obtain ⟨a1,a2⟩:=h k (by simp)
  obtain ⟨c1,c,c2,c3⟩:=come_came (b:=b) a1 a2
  obtain ⟨d1,d2⟩:=fold_came (b:=b) ks (comeF b x k) fun q hq=>by rw [come_len]; exact h q (List.mem_cons_of_mem _ hq)
  refine ⟨c1.trans d1,fun q hq=> ?_⟩
  rcases List.mem_cons.1 hq with rfl | hq
  ·obtain ⟨e,e1,e2⟩:=d1.down _ c c2
   exact ⟨e,e1,e2.trans c3⟩
  ·exact d2 q hq
def ClosedT(L:List Ins)(F:Fl)(td:List Int) :Prop:=∀i (h:i<L.length) b,F[i]? =some (some b)→(i:Int)∈td∨∀k∈nextL L[i] (i:Int),∃c,F[k.toNat]? =some (some c)∧SubB c (outB L[i] b)
theorem Runs.closed{L:List Ins}(fl:FineL L){F F':Fl}{td:List Int}(h:Runs L F td F') :F.length=L.length→ClosedT L F td→F'.length=L.length∧ClosedT L F' []∧∀(j:Nat) (c:Bt),F[j]? =some (some c)→∃d,F'[j]? =some (some d)∧SubB d c:=by
 induction h with
 | done F=>exact fun hl hc=>⟨hl,hc,fun j c hj=>⟨c,hj,SubB.refl c⟩⟩
 | @step F F' ts t b ht hb hr ih=>
  intro hl hc
  obtain ⟨g1,g2⟩:=fold_came (b:=outB L[t] b) (nextL L[t] (t:Int)) (F,ts) fun k hk=>by rw [hl]; exact fl.next t ht k hk
  have hlen:=(fold_w (b:=outB L[t] b) (nextL L[t] (t:Int)) (F,ts) fun k hk=>by rw [hl]; exact fl.next t ht k hk).1
  obtain ⟨i1,i2,i3⟩:=ih (hlen.trans hl) (fun i hi b2 hb2=>by
   rcases g1.new i b2 hb2 with h1 | h1
   ·by_cases e:i=t
    ·subst e
     right
     rw [hb] at h1
     cases h1
     exact g2
    ·rcases hc i hi b2 h1 with h2 | h2
     ·left
      rcases List.mem_append.1 h2 with h3 | h3
      ·exact g1.todo _ h3
      ·have:(i:Int)=(t:Int):=by simpa using h3
       exact absurd (by omega) e
     ·right
      intro k hk
      obtain ⟨c,h3,h4⟩:=h2 k hk
      obtain ⟨d,h5,h6⟩:=g1.down _ c h3
      exact ⟨d,h5,h6.trans h4⟩
   ·exact .inl h1)
  refine ⟨i1,i2,fun j c hj=> ?_⟩
  obtain ⟨d,h5,h6⟩:=g1.down j c hj
  obtain ⟨e,h7,h8⟩:=i3 j d h5
  exact ⟨e,h7,h8.trans h6⟩
end Go.Proofs.Ytgkdkjjohknfpaa.VM
end
section
namespace Go.Proofs.Ytgkdkjjohknfpaa.VM
set_option linter.unusedSectionVars false
open Go AM
theorem fld_split(r a n:Int)(x:Ins)(h:mayB r a n x=true) :isOp x.op=true∧fldOk x.a (lim r a n (shOf x.op).k0)=true∧fldOk x.b (lim r a n (shOf x.op).k1)=true∧fldOk x.c (lim r a n (shOf x.op).k2)=true:=by
 unfold mayB at h
 simp only [Bool.and_eq_true] at h
 exact ⟨h.1,h.2.1,h.2.2.1,h.2.2.2.1⟩
theorem mem_cond1{c:Bool}{v w:Int} :w∈cond1 c v↔c=true∧w=v:=by
 unfold cond1
 cases c <;>simp
theorem mem_regs{x:Ins}{v:Int} :v∈regsL x↔((shOf x.op).k0=2∧v=x.a)∨((shOf x.op).k1=2∧v=x.b)∨((shOf x.op).k2=2∧v=x.c)∨((shOf x.op).k0=1∧v=x.a):=by
 unfold regsL readsL writesB
 simp only [List.mem_append,mem_cond1,decide_eq_true_eq]
 constructor
 ·rintro ((h | h | h) | h)
  ·exact .inl h
  ·exact .inr (.inl h)
  ·exact .inr (.inr (.inl h))
  ·exact .inr (.inr (.inr h))
 ·rintro (h | h | h | h)
  ·exact .inl (.inl h)
  ·exact .inl (.inr (.inl h))
  ·exact .inl (.inr (.inr h))
  ·exact .inr h
theorem lim_reg{r a n k:Int}(h:k=1∨k=2) :lim r a n k=r:=if_pos h
theorem fldOk_iff{v m:Int} :fldOk v m=true↔0≤v∧v<m:=by unfold fldOk; simp
theorem regs_in{r a n:Int}{x:Ins}(h:mayB r a n x=true) :∀v∈regsL x,0≤v∧v<r:=by
 obtain ⟨_,h1,h2,h3⟩:=fld_split r a n x h
 intro v hv
 rw [fldOk_iff] at h1 h2 h3
 rcases mem_regs.1 hv with ⟨hk,rfl⟩ | ⟨hk,rfl⟩ | ⟨hk,rfl⟩ | ⟨hk,rfl⟩
 ·rwa [lim_reg (.inr hk)] at h1
 ·rwa [lim_reg (.inr hk)] at h2
 ·rwa [lim_reg (.inr hk)] at h3
 ·rwa [lim_reg (.inl hk)] at h1
theorem lim_less(r a n k:Int)(h:¬(k=1∨k=2)) :lim (r - 1) a n k=lim r a n k:=by unfold lim; rw [if_neg h,if_neg h]
theorem may_less{r a n:Int}{x:Ins}(h:mayB r a n x=true) :mayB (r - 1) a n x=true↔∀v∈regsL x,v ≠r - 1:=by
 constructor
 ·intro h2 v hv e
  have:=(regs_in h2 v hv).2
  omega
 ·intro hne
  have hr:=regs_in h
  obtain ⟨h0,h1,h2,h3⟩:=fld_split r a n x h
  have sc:=shape_cases x.op
  have one:∀(k v:Int),fldOk v (lim r a n k)=true→((k=1∨k=2)→v∈regsL x)→fldOk v (lim (r - 1) a n k)=true:=by
   intro k v hv hm
   by_cases hk:k=1∨k=2
   ·have h4:=hr v (hm hk)
    have h5:=hne v (hm hk)
    rw [lim_reg hk,fldOk_iff]
    omega
   ·rw [lim_less r a n k hk]; exact hv
  have m0:((shOf x.op).k0=1∨(shOf x.op).k0=2)→x.a∈regsL x:=fun hk=>mem_regs.2 (by
   rcases hk with hk | hk
   ·exact .inr (.inr (.inr ⟨hk,rfl⟩))
   ·exact .inl ⟨hk,rfl⟩)
  have n1:(shOf x.op).k1 ≠1∧(shOf x.op).k2 ≠1:=by
   simp only [List.mem_cons,Prod.mk.injEq,List.not_mem_nil,or_false] at sc
   omega
  have m1:((shOf x.op).k1=1∨(shOf x.op).k1=2)→x.b∈regsL x:=fun hk=>mem_regs.2 (.inr (.inl ⟨by rcases hk with hk | hk; exact absurd hk n1.1; exact hk,rfl⟩))
  have m2:((shOf x.op).k2=1∨(shOf x.op).k2=2)→x.c∈regsL x:=fun hk=>mem_regs.2 (.inr (.inr (.inl ⟨by rcases hk with hk | hk; exact absurd hk n1.2; exact hk,rfl⟩)))
  unfold mayB at h ⊢
  simp only [Bool.and_eq_true] at h ⊢
  exact ⟨h.1,one _ _ h.2.1 m0,one _ _ h.2.2.1 m1,one _ _ h.2.2.2.1 m2,h.2.2.2.2⟩
structure Okc (r a i:Int) (l:List Ins):Prop where
 r0:0≤r
 r1:r≤128
 a0:0≤a
 a1:a≤128
 i0:0≤i
 i1:i≤a
 len0:l.length ≠0
 len:l.length≤4096
 may:∀x∈l,mayB r a (l.length:Int) x=true
 last:∀x,l.getLast? =some x→x.op=0∨x.op=10
theorem check_iff(r a i:Int)(l:List Ins) :checkB r a i l=true↔Okc r a i l:=by
 unfold checkB
 simp only [Bool.and_eq_true,decide_eq_true_eq,Bool.not_eq_true',decide_eq_false_iff_not,List.all_eq_true]
 constructor
 ·rintro ⟨h1,h2,h3,h4,h5,h6,h7,h8,h9,h10⟩
  refine ⟨h1,h2,h3,h4,h5,h6,h7,h8,h9,fun x hx=> ?_⟩
  rw [hx] at h10
  simpa using h10
 ·rintro ⟨h1,h2,h3,h4,h5,h6,h7,h8,h9,h10⟩
  refine ⟨h1,h2,h3,h4,h5,h6,h7,h8,h9, ?_⟩
  cases hl:l.getLast? with
  | none=>rw [List.getLast?_eq_none_iff] at hl; subst hl; simp at h7
  | some x=>simpa using h10 x hl
theorem next_in{r a i:Int}{l:List Ins}(h:Okc r a i l){k:Nat}{x:Ins}(hx:l[k]? =some x) :∀v∈nextL x (k:Int),0≤v∧v<(l.length:Int):=by
 obtain ⟨hk,hx2⟩:=List.getElem?_eq_some_iff.1 hx
 have hlen:=h.len
 have hm:=h.may x (List.mem_of_getElem? hx)
 obtain ⟨h0,h1,h2,h3⟩:=fld_split r a _ x hm
 have hw:IntKind.i64.wrap ((k:Int)+1)=((k+1:Nat):Int):=by rw [wrap64 (by omega) (by omega)]; simp
 have hlast:x.op ≠0→x.op ≠10→k+1<l.length:=by
  intro e1 e2
  rcases Nat.lt_or_ge (k+1) l.length with hlt | hge
  ·exact hlt
  ·have:k=l.length - 1:=by omega
   have hg:l.getLast? =some x:=by rw [List.getLast?_eq_getElem?,←this]; exact hx
   rcases h.last x hg with e | e
   ·exact absurd e e1
   ·exact absurd e e2
 intro v hv
 unfold nextL at hv
 rw [h0,bNT,bFO] at hv
 by_cases e0:x.op=0
 ·rw [decide_eq_true e0,ct] at hv; cases hv
 ·rw [decide_eq_false e0,cf] at hv
  by_cases e10:x.op=10
  ·rw [decide_eq_true e10,ct] at hv
   have:v=x.a:=by simpa using hv
   subst this
   rw [fldOk_iff,e10] at h1
   exact h1
  ·have hk2:=hlast e0 e10
   rw [decide_eq_false e10,cf,hw] at hv
   by_cases e11:x.op=11∨x.op=12
   ·have hd:(decide (x.op=11) || decide (x.op=12))=true:=by simpa using e11
    rw [hd,ct] at hv
    simp only [List.mem_cons,List.not_mem_nil,or_false] at hv
    rcases hv with rfl | rfl
    ·omega
    ·rw [fldOk_iff] at h3
     rcases e11 with e | e
     ·rw [e] at h3; exact h3
     ·rw [e] at h3; exact h3
   ·have hd:(decide (x.op=11) || decide (x.op=12))=false:=by simpa [not_or] using e11
    rw [hd,cf] at hv
    have:v=((k+1:Nat):Int):=by simpa using hv
    omega
theorem fine_of{r a i:Int}{L:List Ins}(h:Okc r a i L)(hl:L.length≤400) :FineL L:=by
 refine ⟨fun j hj=>next_in h (List.getElem?_eq_getElem hj),fun j hj hw=> ?_,hl⟩
 have hm:=h.may L[j] (List.getElem_mem hj)
 unfold writesB at hw
 have:=regs_in hm (L[j]).a (mem_regs.2 (.inr (.inr (.inr ⟨of_decide_eq_true hw,rfl⟩))))
 have:=h.r1
 omega
def initF(n:Nat) :Fl:=(List.replicate n none).set 0 (some (0,0))
theorem sum_rep(n:Nat) :wF (List.replicate n none)=129*n:=by
 induction n with
 | zero=>rfl
 | succ n ih=>
  unfold wF at ih ⊢
  rw [List.replicate_succ,List.map_cons,List.sum_cons,ih]
  show 129+129*n=_
  omega
theorem init_len(n:Nat) :(initF n).length=n:=by unfold initF; rw [List.length_set,List.length_replicate]
theorem init_zero{n:Nat}(h:0<n) :(initF n)[0]? =some (some (0,0)):=by
 unfold initF
 rw [List.getElem?_set,if_pos rfl,if_pos (by rw [List.length_replicate]; exact h)]
theorem init_at{n i:Nat}{b:Bt}(h:(initF n)[i]? =some (some b)) :i=0:=by
 unfold initF at h
 rw [List.getElem?_set] at h
 by_cases e:0=i
 ·exact e.symm
 ·rw [if_neg e,List.getElem?_replicate] at h
  split at h <;>cases h
def FlowOf(L:List Ins)(F:Fl) :Prop:=Runs L (initF L.length) [0] F
theorem through56{r a i:Int}{L:List Ins}(h:Okc r a i L)(hl:L.length≤400)(z:Bool) :∃F,FlowOf L F∧vr 56 0 [.t (cdT r a i z L)] e0=some (.ptr 500 0 0,flowS r a i z (L.map insT) F):=by
 have fl:=fine_of h hl
 have hn:=h.len0
 have hn0:0<L.length:=by omega
 have hw:=wF_set (List.replicate L.length none) 0 (some (0,0)) (by rw [List.length_replicate]; exact hn0)
 rw [sum_rep] at hw
 have hc:=cnt_le (0,0)
 have hw0:wO (some ((0,0):Bt))=cntB (0,0):=rfl
 have hwi:wF (initF L.length)≤129*L.length+128:=by unfold initF; omega
 obtain ⟨F,h1,h2⟩:=thru5 L fl r a i z (2*wF (initF L.length)+1) (initF L.length) [0] (Nat.le_refl _) (init_len _) (by simp only [List.length_cons,List.length_nil]; omega) (fun t ht=>by
  have:t=0:=by simpa using ht
  subst this
  exact ⟨Int.le_refl _,by rw [init_len]; omega,(0,0),init_zero hn0⟩)
 refine ⟨F,h1, ?_⟩
 rw [←h2]
 have e1:(((L.map insT).length:Int)).toNat=L.length:=by rw [List.length_map]; omega
 have e2:bitsL (initF L.length)=List.replicate L.length (T.agg [.int .u64 0, .int .u64 0]):=by
  unfold initF
  rw [bits_set]
  unfold bitsL
  rw [List.map_replicate]
  exact List.set_replicate_self
 have e3:rchL (initF L.length)=(List.replicate L.length (T.bool false)).set 0 (.bool true):=by
  unfold initF
  rw [rch_set]
  unfold rchL
  rw [List.map_replicate]
  rfl
 have n1:(decide (0≤((L.map insT).length:Int)) &&decide (((L.map insT).length:Int)≤((L.map insT).length:Int)) &&decide (((L.map insT).length:Int)*(16+1)≤70368744177664))=true:=by
  rw [List.length_map,decide_eq_true (by omega:(0:Int)≤(L.length:Int)),decide_eq_true (Int.le_refl _),decide_eq_true (by omega:(L.length:Int)*(16+1)≤70368744177664)]
  rfl
 have n2:(decide (0≤((L.map insT).length:Int)) &&decide (((L.map insT).length:Int)≤((L.map insT).length:Int)) &&decide (((L.map insT).length:Int)*(1+1)≤70368744177664))=true:=by
  rw [List.length_map,decide_eq_true (by omega:(0:Int)≤(L.length:Int)),decide_eq_true (Int.le_refl _),decide_eq_true (by omega:(L.length:Int)*(1+1)≤70368744177664)]
  rfl
 unfold cdT
 rw [eq56,R56,needC_true n1,needC_true n2,e1,e2,e3]
 have n3:decide ((0:Int)<((List.replicate L.length (T.bool false)).length:Int))=true:=decide_eq_true (by rw [List.length_replicate]; omega)
 rw [needC_true (by rw [n3]; rfl),setT_at _ (by rw [List.length_replicate]; exact hn0)]
 rfl
theorem FlowOf.closed{L:List Ins}(fl:FineL L)(h0:0<L.length){F:Fl}(h:FlowOf L F) :F.length=L.length∧ClosedT L F []∧∃d,F[0]? =some (some d):=by
 obtain ⟨h1,h2,h3⟩:=Runs.closed fl h (init_len _) fun i _ b hb=>by
  have:=init_at hb
  subst this
  exact .inl (by simp)
 obtain ⟨d,h4,_⟩:=h3 0 _ (init_zero h0)
 exact ⟨h1,h2,d,h4⟩
theorem start33(r a i:Int)(z:Bool)(L:List Ins)(hl:L.length≤400) :
  (checkB r a i L=false∧vr 33 0 [.t (cdT r a i z L)] e0=some (.tup [.con (.pointer none), .t (.int .i64 1)],e0))∨
  (checkB r a i L=true∧∃F,FlowOf L F∧vr 33 0 [.t (cdT r a i z L)] e0=some (.tup [.ptr 500 0 0, .t (.int .i64 0)],flowS r a i z (L.map insT) F)):=by
 have h14:=check14 r a i z L
 cases hc:checkB r a i L with
 | false=>
  left
  refine ⟨rfl, ?_⟩
  rw [hc] at h14
  unfold cdT at h14 ⊢
  rw [eq33,R33,h14,callK_some,asT_t]
  rfl
 | true=>
  right
  obtain ⟨F,h1,h2⟩:=through56 ((check_iff r a i L).1 hc) hl z
  refine ⟨rfl,F,h1, ?_⟩
  rw [hc] at h14
  unfold cdT at h14 h2 ⊢
  have hz:(!decide ((0:Int)=0))=false:=rfl
  rw [eq33,R33,h14,callK_some,asT_t,ct,asI_int,endB_nil,hz,cf,h2,callK_some,isPtr_ptr,consB_cons,asVar_var,consV_cons,asT_t,asI_int,consV_cons,asT_t,asI_int,consV_cons,asT_t,asI_int,consV_cons,asT_t,asL_list,consV_cons,isBuf_buf,consV_cons,isBuf_buf,endV_nil,consB_cons,asArr_arr,consB_cons,asArr_arr,endB_nil]
end Go.Proofs.Ytgkdkjjohknfpaa.VM
end
section
namespace Go.Proofs.Ytgkdkjjohknfpaa.VM
set_option linter.unusedSectionVars false
open Go AM
abbrev flow0(r a i:Int)(z:Bool)(l:List T)(F:Fl) :Bs:=[(0, .var (headC r a i z l 1 2)),(1, .arr true 2 true (bitsL F)),(2, .arr true 1 true (rchL F))]
theorem app_ok{n:Nat}(h:n≤1000000) :(decide ((n+1)*(8+1)≤70368744177664) &&decide (8≤1048576))=true:=by
 rw [decide_eq_true (by omega:(n+1)*(8+1)≤70368744177664)]
 rfl
end Go.Proofs.Ytgkdkjjohknfpaa.VM
end
section
namespace Go.Proofs.Ytgkdkjjohknfpaa.VM
set_option linter.unusedSectionVars false
open Go AM
def askIx(b:Bt) :List Int→Nat→Int
 | [],_=> -1
 | k::l,j=>bif !hasB b k.toNat then (j:Int) else askIx b l (j+1)
theorem ask_any(b:Bt) :∀(l:List Int) (j:Nat),decide (0≤askIx b l j)=l.any fun k=> !hasB b k.toNat
 | [],_=>rfl
 | k::l,j=>by
  rw [List.any_cons,askIx]
  cases !hasB b k.toNat with
  | true=>exact decide_eq_true (Int.natCast_nonneg j)
  | false=>rw [cf,bFO]; exact ask_any b l (j+1)
abbrev stA(r a i:Int)(z:Bool)(l:List T)(F:Fl)(n:Int) :Bs:=[(0, .var [.ptr 1 0 0]),(1, .var (headC r a i z l 2 3)),(2, .arr true 2 true (bitsL F)),(3, .arr true 1 true (rchL F)),(4, .var [.t (.int .i64 n)])]
theorem ask62(r a i:Int)(z:Bool)(l:List T)(F:Fl)(n:Nat)(o:Option Bt)(hn:F[n]? =some o)(k:Int)(h0:0≤k)(h1:k<128) :
  vr 62 0 [.t (.int .i64 k), .ptr 0 0 0, .ptr 4 0 0] ⟨stA r a i z l F (n:Int),[]⟩=some (.t (.bool (!hasB (o.getD (0,0)) k.toNat)),⟨stA r a i z l F (n:Int),[500,501,502,503,504]⟩):=by
 have hlt:n<F.length:=by
  rcases Nat.lt_or_ge n F.length with h | h
  ·exact h
  ·rw [List.getElem?_eq_none h] at hn; cases hn
 have n0:decide ((0:Int)≤(n:Int))=true:=decide_eq_true (by omega)
 have n1:decide ((n:Int)<((bitsL F).length:Int))=true:=decide_eq_true (by rw [bits_len]; omega)
 have h39:=has39 (o.getD (0,0)) k.toNat (by omega)
 have hk:((k.toNat:Nat):Int)=k:=by omega
 rw [hk] at h39
 rw [eq62,R62,n0,n1,bTA,needC_t,Int.toNat_natCast,getT_at (bits_at hn)]
 unfold btT at h39 ⊢
 rw [asA_agg,consT_cons,asI_int,consT_cons,asI_int,endT_nil,h39,callK_some,asT_t,asB_bool,endB_nil]
theorem L57_spec(r a i:Int)(z:Bool)(l:List T)(F:Fl)(n:Nat)(o:Option Bt)(hn:F[n]? =some o)(nz:Bool)(ks:List Int)(hk:∀k∈ks,0≤k∧k<128)(hb:ks.length≤1000) :∀(m j:Nat),m+j=ks.length→
  L57_2 nz (ints ks) ((ks.length:Nat):Int) (j:Int) r a i z l true (bitsL F) true (rchL F) (n:Int)=some (.t (.int .i64 (askIx (o.getD (0,0)) (ks.drop j) j)),⟨stA r a i z l F (n:Int),[500,501,502,503,504]⟩)
 | 0,j,h=>by
  have d:decide ((j:Int)<((ks.length:Nat):Int))=false:=decide_eq_false (by omega)
  rw [L57_2_eq,RL57_2,d,cf,List.drop_of_length_le (by omega)]
  rfl
 | m+1,j,h=>by
  have d:decide ((j:Int)<((ks.length:Nat):Int))=true:=decide_eq_true (by omega)
  have n0:decide ((0:Int)≤(j:Int))=true:=decide_eq_true (by omega)
  have hw:IntKind.i64.wrap ((j:Int)+1)=((j+1:Nat):Int):=by rw [wrap64 (by omega) (by omega)]; simp
  have hlt:j<ks.length:=by omega
  obtain ⟨k0,k1⟩:=hk ks[j] (List.getElem_mem hlt)
  have h62:=ask62 r a i z l F n o hn ks[j] k0 k1
  rw [L57_2_eq,RL57_2,d,ct,needC_true n0,Int.toNat_natCast,getT_at (ints_at hlt),asI_int,h62,callK_some,asT_t,asB_bool,consB_cons,asVar_var,consV_cons,isPtr_ptr,endV_nil,consB_cons,asVar_var,consV_cons,asT_t,asI_int,consV_cons,asT_t,asI_int,consV_cons,asT_t,asI_int,consV_cons,asT_t,asL_list,consV_cons,isBuf_buf,consV_cons,isBuf_buf,endV_nil,consB_cons,asArr_arr,consB_cons,asArr_arr,consB_cons,asVar_var,consV_cons,asT_t,asI_int,endV_nil,endB_nil,hw,L57_spec r a i z l F n o hn nz ks hk hb m (j+1) (by omega),List.drop_eq_getElem_cons hlt,askIx]
  cases hasB (o.getD (0,0)) (ks[j]).toNat <;>rfl
def asksB(x:Ins)(b:Bt) :Bool:=(readsL x).any fun k=> !hasB b k.toNat
theorem reads_len(x:Ins) :(readsL x).length≤3:=by
 unfold readsL cond1
 cases decide ((shOf x.op).k0=2) <;>cases decide ((shOf x.op).k1=2) <;>cases decide ((shOf x.op).k2=2) <;>simp
theorem asks48(r a i:Int)(z:Bool)(l:List T)(F:Fl)(n:Nat)(o:Option Bt)(hn:F[n]? =some o)(x:Ins)(hk:∀k∈readsL x,0≤k∧k<128) :
  vr 48 0 [.ptr 0 0 0, .t (.int .i64 (n:Int)), .t (insT x)] ⟨flow0 r a i z l F,[]⟩=some (.t (.bool (asksB x (o.getD (0,0)))),⟨flow0 r a i z l F,[500,501,502]⟩):=by
 have hx:=reads15 x
 have hl:=reads_len x
 have h57:=L57_spec r a i z l F n o hn (!(readsL x).isEmpty) (readsL x) hk (by omega) (readsL x).length 0 (by omega)
 rw [List.drop_zero] at h57
 unfold asksB
 rw [←ask_any _ _ 0]
 unfold insT at hx ⊢
 rw [eq48,R48,hx,callK_some]
 unfold numsV
 rw [asT_t,asL_list,endB_nil,eq36,R36,eq57,R57,ints_len]
 have h0:L57_2 (!(readsL x).isEmpty) (ints (readsL x)) ((readsL x).length:Int) 0 r a i z l true (bitsL F) true (rchL F) (n:Int)=L57_2 (!(readsL x).isEmpty) (ints (readsL x)) ((readsL x).length:Int) ((0:Nat):Int) r a i z l true (bitsL F) true (rchL F) (n:Int):=rfl
 rw [h0,h57,callK_some,asT_t,asI_int,consB_cons,asVar_var,consV_cons,isPtr_ptr,endV_nil,consB_cons,asVar_var,consV_cons,asT_t,asI_int,consV_cons,asT_t,asI_int,consV_cons,asT_t,asI_int,consV_cons,asT_t,asL_list,consV_cons,isBuf_buf,consV_cons,isBuf_buf,endV_nil,consB_cons,asArr_arr,consB_cons,asArr_arr,consB_cons,asVar_var,consV_cons,asT_t,asI_int,endV_nil,endB_nil]
 rw [callK_some,asT_t,asB_bool,consB_cons,asVar_var,consV_cons,isPtr_ptr,endV_nil,consB_cons,asVar_var,consV_cons,asT_t,asI_int,consV_cons,asT_t,asI_int,consV_cons,asT_t,asI_int,consV_cons,asT_t,asL_list,consV_cons,isBuf_buf,consV_cons,isBuf_buf,endV_nil,consB_cons,asArr_arr,consB_cons,asArr_arr,consB_cons,asVar_var,consV_cons,asT_t,asI_int,endV_nil,endB_nil]
def askL :List Ins→Fl→Nat→List Int
 | x::L,o::F,j=>(bif o.isSome &&asksB x (o.getD (0,0)) then [(j:Int)] else [])++askL L F (j+1)
 | _,_,_=>[]
theorem askL_cons(x:Ins)(L:List Ins)(o:Option Bt)(F:Fl)(j:Nat) :askL (x::L) (o::F) j=(bif o.isSome &&asksB x (o.getD (0,0)) then [(j:Int)] else [])++askL L F (j+1):=rfl
theorem L34_spec(r a i:Int)(z:Bool)(L:List Ins)(F:Fl)(hF:F.length=L.length)(hb:L.length≤400)(hk:∀x∈L,∀k∈readsL x,0≤k∧k<128) :∀(m j:Nat) (oz:Bool) (out:List Int),m+j=L.length→out.length≤j→oz= !out.isEmpty→
  L34_2 z (L.map insT) ((L.length:Nat):Int) (j:Int) r a i z (L.map insT) true (bitsL F) true (rchL F) oz (ints out)=
   some (numsV (out++askL (L.drop j) (F.drop j) j),⟨flow0 r a i z (L.map insT) F,[500,501,502]⟩)
 | 0,j,oz,out,h,ho,hz=>by
  have d:decide ((j:Int)<((L.length:Nat):Int))=false:=decide_eq_false (by omega)
  rw [L34_2_eq,RL34_2,d,cf,List.drop_of_length_le (by omega)]
  have:askL [] (F.drop j) j=[]:=by unfold askL; rfl
  rw [this,List.append_nil,hz]
 | m+1,j,oz,out,h,ho,hz=>by
  have d:decide ((j:Int)<((L.length:Nat):Int))=true:=decide_eq_true (by omega)
  have n0:decide ((0:Int)≤(j:Int))=true:=decide_eq_true (by omega)
  have n1:decide ((j:Int)<((rchL F).length:Int))=true:=decide_eq_true (by rw [rch_len]; omega)
  have hw:IntKind.i64.wrap ((j:Int)+1)=((j+1:Nat):Int):=by rw [wrap64 (by omega) (by omega)]; simp
  have hlt:j<L.length:=by omega
  have hltF:j<F.length:=by omega
  have hg:(L.map insT)[j]? =some (insT L[j]):=by rw [List.getElem?_map,List.getElem?_eq_getElem hlt]; rfl
  have hx:=asks48 r a i z (L.map insT) F j F[j] (List.getElem?_eq_getElem hltF) L[j] (hk _ (List.getElem_mem hlt))
  have ih:=fun oz' out'=>L34_spec r a i z L F hF hb hk m (j+1) oz' out' (by omega)
  rw [L34_2_eq,RL34_2,d,ct,needC_true n0,Int.toNat_natCast,getT_at hg,List.drop_eq_getElem_cons hlt,List.drop_eq_getElem_cons hltF,askL_cons]
  have hi2:insT L[j]= .agg [.int .i64 (L[j]).op, .int .i64 (L[j]).a, .int .i64 (L[j]).b, .int .i64 (L[j]).c, .int .i64 (L[j]).n]:=rfl
  rw [hi2] at hx ⊢
  rw [asA_agg,consT_cons,asI_int,consT_cons,asI_int,consT_cons,asI_int,consT_cons,asI_int,consT_cons,asI_int,endT_nil,n0,n1,bTA,needC_t,getT_at (rch_at (List.getElem?_eq_getElem hltF)),asB_bool,hw]
  cases (F[j]).isSome with
  | false=>
   rw [cf,bFA,cf,List.nil_append]
   exact ih oz out (by omega) hz
  | true=>
   rw [ct,bTA,hx,callK_some,asT_t,asB_bool,consB_cons,asVar_var,consV_cons,asT_t,asI_int,consV_cons,asT_t,asI_int,consV_cons,asT_t,asI_int,consV_cons,asT_t,asL_list,consV_cons,isBuf_buf,consV_cons,isBuf_buf,endV_nil,consB_cons,asArr_arr,consB_cons,asArr_arr,endB_nil]
   cases asksB L[j] ((F[j]).getD (0,0)) with
   | false=>
    rw [cf,cf,List.nil_append]
    exact ih oz out (by omega) hz
   | true=>
    have hi:ints out++[T.int .i64 (j:Int)]=ints (out++[(j:Int)]):=by unfold ints; rw [List.map_append]; rfl
    rw [ct,ct,needC_true (app_ok (by rw [ints_len]; omega)),hi]
    have hh:=ih (oz || true) (out++[(j:Int)]) (by rw [List.length_append]; simp only [List.length_cons,List.length_nil]; omega) (by rw [bOT]; cases out <;>rfl)
    rw [List.append_assoc] at hh
    exact hh
theorem places34v0(r a i:Int)(z:Bool)(L:List Ins)(F:Fl)(hF:F.length=L.length)(hb:L.length≤400)(hk:∀x∈L,∀k∈readsL x,0≤k∧k<128) :
  vr 34 0 [.ptr 0 0 0, .fn 48 [.ptr 0 0 0] []] ⟨flow0 r a i z (L.map insT) F,[]⟩=some (numsV (askL L F 0),⟨flow0 r a i z (L.map insT) F,[500,501,502]⟩):=by
 have h:=L34_spec r a i z L F hF hb hk L.length 0 false [] (by omega) (Nat.le_refl _) rfl
 rw [List.drop_zero,List.drop_zero,List.nil_append] at h
 rw [eq34,R34,←h,List.length_map]
 rfl
theorem unset25(r a i:Int)(z:Bool)(L:List Ins)(hl:L.length≤400) :
  (checkB r a i L=false∧vr 25 0 [.t (cdT r a i z L)] e0=some (.tup [.t (.list 1 false []), .t (.int .i64 1)],e0))∨
  (checkB r a i L=true∧∃F,FlowOf L F∧vr 25 0 [.t (cdT r a i z L)] e0=some (.tup [numsV (askL L F 0), .t (.int .i64 0)],e0)):=by
 rcases start33 r a i z L hl with ⟨h1,h2⟩ | ⟨h1,F,h2,h3⟩
 ·left
  refine ⟨h1, ?_⟩
  unfold cdT at h2 ⊢
  rw [eq25,R25,h2,callK_some]
  rfl
 ·right
  refine ⟨h1,F,h2, ?_⟩
  have hok:=(check_iff r a i L).1 h1
  have hF:=(FlowOf.closed (fine_of hok hl) (Nat.pos_of_ne_zero hok.len0) h2).1
  have hr1:=hok.r1
  have hp:=places34v0 r a i z L F hF hl fun x hx k hk=>by
   have:=regs_in (hok.may x hx) k (List.mem_append_left _ hk)
   omega
  have hf:fitsH (.tup [.nilp,(.t (.one (.int .i64)))]) [] (.tup [.ptr 500 0 0, .t (.int .i64 0)]) (flowS r a i z (L.map insT) F).blks=false:=by rfl
  have hz:(!decide ((0:Int)=0))=false:=rfl
  unfold cdT at h3 ⊢
  rw [eq25,R25,h3,callK_some,hf,cf,asTup_tup,consV_cons,isPtr_ptr,consV_cons,asT_t,asI_int,endV_nil,consB_cons,asVar_var,consV_cons,asT_t,asI_int,consV_cons,asT_t,asI_int,consV_cons,asT_t,asI_int,consV_cons,asT_t,asL_list,consV_cons,isBuf_buf,consV_cons,isBuf_buf,endV_nil,consB_cons,asArr_arr,consB_cons,asArr_arr,endB_nil,hz,cf,hp,callK_some]
  unfold numsV
  rw [asT_t,asL_list,consB_cons,asVar_var,consV_cons,asT_t,asI_int,consV_cons,asT_t,asI_int,consV_cons,asT_t,asI_int,consV_cons,asT_t,asL_list,consV_cons,isBuf_buf,consV_cons,isBuf_buf,endV_nil,consB_cons,asArr_arr,consB_cons,asArr_arr,endB_nil]
end Go.Proofs.Ytgkdkjjohknfpaa.VM
end
section
namespace Go.Proofs.Ytgkdkjjohknfpaa.VM
set_option linter.unusedSectionVars false
open Go AM
theorem L20_self(z1 z2:Bool)(a:List Int)(hb:a.length≤9223372036854775806) :∀(m k:Nat),m+k=a.length→
  L20_4 z1 (ints a) z2 (ints a) ((ints a).length:Int) (k:Int)=some (.t (.bool true),e0)
 | 0,k,h=>by
  have d:decide ((k:Int)<((ints a).length:Int))=false:=decide_eq_false (by rw [List.length_map]; omega)
  rw [L20_4_eq,RL20_4,d,cf]
 | m+1,k,h=>by
  have hk:k<a.length:=by omega
  have d:decide ((k:Int)<((ints a).length:Int))=true:=decide_eq_true (by rw [List.length_map]; omega)
  have n0:decide ((0:Int)≤(k:Int))=true:=decide_eq_true (by omega)
  have hw:IntKind.i64.wrap ((k:Int)+1)=((k+1:Nat):Int):=by rw [wrap64 (by omega) (by omega)]; simp
  have hg:(ints a)[k]? =some (.int .i64 a[k]):=by rw [List.getElem?_map,List.getElem?_eq_getElem hk]; rfl
  rw [L20_4_eq,RL20_4,d,ct,needC_true n0,Int.toNat_natCast,getT_at hg,asI_int,needC_true n0,getT_at hg,asI_int,decide_eq_true rfl,bNT,cf,hw]
  exact L20_self z1 z2 a hb m (k+1) (by omega)
theorem equal20(z1 z2:Bool)(a:List Int)(hb:a.length≤9223372036854775806) :vr 20 0 [.t (.list 1 z1 (ints a)), .t (.list 1 z2 (ints a))] e0=some (.t (.bool true),e0):=by
 rw [eq20,R20,decide_eq_true rfl,bNT,cf]
 exact L20_self z1 z2 a hb a.length 0 (by omega)
theorem Runs.inv{L:List Ins}{F F':Fl}{td ts:List Int}{t:Nat}(h:Runs L F td F')(e:td=ts++[(t:Int)]) :∃(ht:t<L.length) (b:Bt),F[t]? =some (some b)∧Runs L ((nextL L[t] (t:Int)).foldl (comeF (outB L[t] b)) (F,ts)).1 ((nextL L[t] (t:Int)).foldl (comeF (outB L[t] b)) (F,ts)).2 F':=by
 cases h with
 | done=>simp at e
 | step ht hb hr=>
  rename_i ts2 t2 b
  obtain ⟨e1,e2⟩:=List.append_inj' e rfl
  have e4:(t2:Int)=(t:Int):=by simpa using e2
  have e3:t2=t:=by omega
  subst e1
  subst e3
  exact ⟨ht,b,hb,hr⟩
theorem Runs.end{L:List Ins}{F F':Fl}(h:Runs L F [] F') :F'=F:=by
 generalize e:([]:List Int)=td at h
 cases h with
 | done=>rfl
 | step=>simp at e
def exL :List Ins:=[⟨1,0,0,0,1⟩,⟨3,0,0,1,0⟩,⟨0,0,0,0,0⟩]
def exF :Fl:=[some (0,0),some (withB (0,0) 0),some (withB (withB (0,0) 0) 0)]
theorem ex_flow{F:Fl}(h:FlowOf exL F) :F=exF:=by
 unfold FlowOf at h
 obtain ⟨_,b,hb,h⟩:=h.inv (ts:=[]) (t:=0) rfl
 have e:b=(0,0):=by
  have:(initF exL.length)[0]? =some (some ((0,0):Bt)):=rfl
  rw [this] at hb
  cases hb
  rfl
 subst e
 obtain ⟨_,b,hb,h⟩:=h.inv (ts:=[]) (t:=1) (by kernel_rfl)
 have e:b=withB (0,0) 0:=by
  have:(((nextL exL[0] ((0:Nat):Int)).foldl (comeF (outB exL[0] (0,0))) (initF exL.length,[])).1)[1]? =some (some (withB (0,0) 0)):=by kernel_rfl
  rw [this] at hb
  cases hb
  rfl
 subst e
 obtain ⟨_,b,hb,h⟩:=h.inv (ts:=[]) (t:=2) (by kernel_rfl)
 have h:=Runs.end (h:Runs exL _ [] F)
 rw [h]
 rfl
theorem live_parse :parseOf ⟨#[99,111,100,101,32,50,32,48,32,48,10,115,101,116,32,114,48,32,49,10,97,100,100,32,114,48,32,114,48,32,114,49,10,104,97,108,116]⟩= .tup [.t (cdT 2 0 0 true exL), .t (.int .i64 4), .t (.int .i64 0)]:=by kernel_rfl
theorem ex_unset :vr 25 0 [.t (cdT 2 0 0 true exL)] e0=some (.tup [.t (.list 1 true (ints [1])), .t (.int .i64 0)],e0):=by
 have hc:checkB 2 0 0 exL=true:=by kernel_rfl
 rcases unset25 2 0 0 true exL (by decide) with ⟨h1,_⟩ | ⟨_,F,h2,h3⟩
 ·rw [hc] at h1; cases h1
 ·rw [ex_flow h2] at h3
  rw [h3]
  have:askL exL exF 0=[1]:=by kernel_rfl
  rw [this]
  rfl
theorem ex_check :vr 14 0 [.t (cdT 2 0 0 true exL)] e0=some (.t (.int .i64 7),e0):=by
 have h:=ex_unset
 unfold cdT at h ⊢
 rw [eq14,R14,h,callK_some]
 rfl
theorem live8 :vr 8 0 [] e0=some (.t (.bool true),e0):=by
 have h:=ex_unset
 have h2:=ex_check
 have h3:=equal20 true true [1] (by decide)
 rw [eq8,R8,parse10,live_parse,callK_some]
 unfold cdT at h h2 ⊢
 rw [asTup_tup,consV_cons,asT_t,asA_agg,consT_cons,asI_int,consT_cons,asI_int,consT_cons,asI_int,consT_cons,asL_list,endT_nil,consV_cons,asT_t,asI_int,consV_cons,asT_t,asI_int,endV_nil,endB_nil,h,callK_some,asTup_tup,consV_cons,asT_t,asL_list,consV_cons,asT_t,asI_int,endV_nil,endB_nil,decide_eq_true rfl,ct,ct]
 show callK (vr _ 0 [.t (.list 1 true (ints [1])), .t (.list 1 true (ints [1]))] ⟨[],[]⟩) _=_
 rw [h3,callK_some,asT_t,asB_bool,endB_nil,ct,h2,callK_some,asT_t,asI_int,endB_nil]
 rfl
theorem picks_of{x:T}(h:FitT [.list [.bool] false] false x) :∃z ps,x= .list 1 z (List.map T.bool ps)∧ps.length≤maxLen:=by
 obtain ⟨ts,rfl,h⟩:=h
 unfold fits at h
 obtain ⟨t,r,rfl,ht,h⟩:=h
 unfold fits at h
 subst h
 unfold fit1 at ht
 obtain ⟨z,l,rfl,h1,h2,h3⟩:=ht
 have hl:∀l:List T,(∀y∈l,∃ts,y=packT false ts∧fits [.bool] ts)→∃ps:List Bool,l=ps.map T.bool:=by
  intro l
  induction l with
  | nil=>exact fun _=>⟨[],rfl⟩
  | cons y l ih=>
   intro hy
   obtain ⟨ts,rfl,h4⟩:=hy y (by simp)
   unfold fits at h4
   obtain ⟨t,r,rfl,ht,h4⟩:=h4
   unfold fits at h4
   subst h4
   unfold fit1 at ht
   obtain ⟨b,rfl⟩:=ht
   obtain ⟨ps,rfl⟩:=ih fun q hq=>hy q (List.mem_cons_of_mem _ hq)
   exact ⟨b::ps,rfl⟩
 obtain ⟨ps,rfl⟩:=hl l h3
 exact ⟨z,ps,rfl,by simpa using h1⟩
end Go.Proofs.Ytgkdkjjohknfpaa.VM
end
