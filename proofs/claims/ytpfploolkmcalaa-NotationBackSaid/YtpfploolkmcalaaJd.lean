/- Merged: Jd1 Jd2. Conditions: none. -/
import Derived.Test.YtpfploolkmcalaaJe
import Derived.Laws.Bits64
import Derived.Laws.BitsLemmas
set_option linter.all false
section
namespace Go.Proofs.Ytpfploolkmcalaa.VM
set_option linter.unusedSectionVars false
open Go AM
def byT(b:UInt8) :T:= .int .u8 (b.toNat:Int)
theorem byT_byte(l:List UInt8) :(l.map byT).all isByte=true:=by
 induction l with
 | nil=>rfl
 | cons b l ih=>rw [List.map_cons,List.all_cons,ih]; rfl
theorem byT_back(l:List UInt8) :(l.map byT).map byteT=l:=by
 induction l with
 | nil=>rfl
 | cons b l ih=>
  rw [List.map_cons,List.map_cons,ih]
  have:byteT (byT b)=b:=by
   show UInt8.ofNat ((b.toNat:Int)).toNat=b
   rw [Int.toNat_natCast]
   simp
  rw [this]
theorem asI_byT{R:Type}(x:UInt8)(K:Int→Option R) :asI .u8 (byT x) K=K (x.toNat:Int):=asI_int .u8 _ K
theorem fold_byT(x:UInt8) :(T.int .u8 (x.toNat:Int))=byT x:=rfl
theorem at_mid{A:Type}(a r:List A)(x:A) :(a++x::r)[a.length]? =some x:=by simp
theorem set_mid{A:Type}(a r:List A)(x y:A) :(a++x::r).set a.length y=a++y::r:=by simp
theorem L35_spec :∀(k:Nat) (m:List UInt8) (a b:List T),m.length=k→(a++m.map byT++b).length<100000→
  L116_1 (a.length:Int) ((a.length:Int)+(m.length:Int) - 1) true (a++m.map byT++b)=some (.tup [],⟨[(0, .arr true 1 true (a++m.reverse.map byT++b))],[500]⟩):=by
 intro k
 induction k using Nat.strongRecOn with
 | ind k ih=>
  intro m a b hk hl
  rw [L116_1_eq,RL116_1]
  cases m with
  | nil=>
   have h1:decide ((a.length:Int)<(a.length:Int)+(([]:List UInt8).length:Int) - 1)=false:=decide_eq_false (by simp; omega)
   rw [h1,cf]
   rfl
  | cons x t=>
   rcases List.eq_nil_or_concat t with rfl | ⟨m',y,rfl⟩
   ·have h1:decide ((a.length:Int)<(a.length:Int)+(([x]:List UInt8).length:Int) - 1)=false:=decide_eq_false (by simp)
    rw [h1,cf]
    rfl
   ·rw [List.concat_eq_append] at hk hl ⊢
    have e1:a++(x::(m'++[y])).map byT++b=a++byT x::(m'.map byT++byT y::b):=by simp
    have hlen:(x::(m'++[y])).length=m'.length+2:=by simp
    have hll:(a++byT x::(m'.map byT++byT y::b)).length=a.length+m'.length+2+b.length:=by simp; omega
    rw [e1] at hl
    rw [hll] at hl
    have h1:decide ((a.length:Int)<(a.length:Int)+((x::(m'++[y])).length:Int) - 1)=true:=decide_eq_true (by rw [hlen]; omega)
    rw [e1,h1,ct]
    have hj:((a.length:Int)+((x::(m'++[y])).length:Int) - 1)=((a.length+m'.length+1:Nat):Int):=by rw [hlen]; omega
    rw [hj]
    have h2:(decide (0≤((a.length+m'.length+1:Nat):Int)) &&decide (((a.length+m'.length+1:Nat):Int)<((a++byT x::(m'.map byT++byT y::b)).length:Int)))=true:=by
     rw [decide_eq_true (by omega),decide_eq_true (by rw [hll]; omega)]; rfl
    have h3:(decide (0≤(a.length:Int)) &&decide ((a.length:Int)<((a++byT x::(m'.map byT++byT y::b)).length:Int)))=true:=by
     rw [decide_eq_true (by omega),decide_eq_true (by rw [hll]; omega)]; rfl
    have g1:(a++byT x::(m'.map byT++byT y::b))[(((a.length+m'.length+1:Nat):Int)).toNat]? =some (byT y):=by
     have:=at_mid (a++byT x::m'.map byT) b (byT y)
     rw [Int.toNat_natCast]
     have e:(a++byT x::m'.map byT).length=a.length+m'.length+1:=by simp; omega
     rw [e] at this
     rw [←this]
     congr 1
     simp
    have g2:(a++byT x::(m'.map byT++byT y::b))[((a.length:Int)).toNat]? =some (byT x):=by
     rw [Int.toNat_natCast]; exact at_mid _ _ _
    rw [needC_true h2,getT_at g1,asI_byT,needC_true h3,getT_at g2,asI_byT,needC_true h3,fold_byT,fold_byT]
    have s1:(a++byT x::(m'.map byT++byT y::b)).set ((a.length:Int)).toNat (byT y)=a++byT y::(m'.map byT++byT y::b):=by
     rw [Int.toNat_natCast]; exact set_mid _ _ _ _
    rw [bTA,needC_t,setT_at _ (by rw [hll,Int.toNat_natCast]; omega),s1]
    have hll2:(a++byT y::(m'.map byT++byT y::b)).length=a.length+m'.length+2+b.length:=by simp; omega
    have h4:(decide (0≤((a.length+m'.length+1:Nat):Int)) &&decide (((a.length+m'.length+1:Nat):Int)<((a++byT y::(m'.map byT++byT y::b)).length:Int)))=true:=by
     rw [decide_eq_true (by omega),decide_eq_true (by rw [hll2]; omega)]; rfl
    have s2:(a++byT y::(m'.map byT++byT y::b)).set (((a.length+m'.length+1:Nat):Int)).toNat (byT x)=(a++[byT y])++m'.map byT++byT x::b:=by
     have:=set_mid (a++byT y::m'.map byT) b (byT y) (byT x)
     rw [Int.toNat_natCast]
     have e:(a++byT y::m'.map byT).length=a.length+m'.length+1:=by simp; omega
     rw [e] at this
     have e2:a++byT y::(m'.map byT++byT y::b)=a++byT y::m'.map byT++byT y::b:=by simp
     rw [e2,this]
     simp
    rw [needC_true h4,needC_t,setT_at _ (by rw [hll2,Int.toNat_natCast]; omega),s2]
    have w1:IntKind.i64.wrap ((a.length:Int)+1)=((a++[byT y]).length:Int):=by
     rw [wrap64 (by omega) (by omega)]; simp
    have w2:IntKind.i64.wrap (((a.length+m'.length+1:Nat):Int) - 1)=((a++[byT y]).length:Int)+(m'.length:Int) - 1:=by
     rw [wrap64 (by omega) (by omega)]; simp; omega
    rw [w1,w2]
    rw [ih m'.length (by rw [←hk,hlen]; omega) m' (a++[byT y]) (byT x::b) rfl (by simp; omega)]
    congr 3
    simp
theorem rev35(m:List UInt8)(h:m.length<100000) :vr 116 0 [.buf 0] ⟨[(0, .arr true 1 true (m.map byT))],[]⟩=some (.tup [],⟨[(0, .arr true 1 true (m.reverse.map byT))],[500]⟩):=by
 rw [eq116,R116]
 have hl:(m.map byT).length=m.length:=by simp
 have:=L35_spec m.length m [] [] rfl (by simpa using h)
 simp only [List.nil_append,List.append_nil,List.length_nil] at this
 rw [hl,wrap64 (by omega) (by omega)]
 have e:((0:Nat):Int)+(m.length:Int) - 1=(m.length:Int) - 1:=by omega
 rw [e] at this
 exact this
def revD(n:Nat) :List UInt8:=if n<10 then [UInt8.ofNat (48+n)] else UInt8.ofNat (48+n % 10)::revD (n / 10)
termination_by n
decreasing_by omega
theorem revD_lt{n:Nat}(h:n<10) :revD n=[UInt8.ofNat (48+n)]:=by rw [revD,if_pos h]
theorem revD_ge{n:Nat}(h:¬n<10) :revD n=UInt8.ofNat (48+n % 10)::revD (n / 10):=by rw [revD,if_neg h]
def digs(n:Nat) :List UInt8:=(revD n).reverse
theorem byT_of{n:Nat}(h:n<256) :byT (UInt8.ofNat n)= .int .u8 (n:Int):=by
 unfold byT
 rw [UInt8.toNat_ofNat',Nat.mod_eq_of_lt h]
theorem tmod10(n:Nat) :Int.tmod (n:Int) 10=((n % 10:Nat):Int):=by
 rw [Int.tmod_eq_emod_of_nonneg (by omega)]; rfl
theorem tdiv10(n:Nat) :Int.tdiv (n:Int) 10=((n / 10:Nat):Int):=by
 rw [Int.tdiv_eq_ediv_of_nonneg (by omega)]; rfl
theorem L17_spec(n:Int) :∀(u:Nat),u<18446744073709551616→∀(z:Bool) (m:List UInt8),m.length+(revD u).length≤1000→
  L103_5 n (u:Int) z (m.map byT)=some (.t (.str ⟨⟨(bif decide (n<0) then [45] else [])++digs u++m.reverse⟩⟩),e0):=by
 intro u
 induction u using Nat.strongRecOn with
 | ind u ih=>
  intro hu z m hm
  rw [L103_5_eq,RL103_5]
  have hml:(m.map byT).length=m.length:=by simp
  have n1:(decide (((m.map byT).length+1)*(1+1)≤70368744177664) &&decide (1≤1048576))=true:=by rw [decide_eq_true (by omega)]; rfl
  have w2:IntKind.u8.wrap (IntKind.u64.wrap ((48:Int)+((u % 10:Nat):Int)))=((48+u % 10:Nat):Int):=by
   rw [IntKind.wrap_u64,IntKind.wrap_u8]; omega
  have w3:IntKind.u64.wrap ((u / 10:Nat):Int)=((u / 10:Nat):Int):=by rw [IntKind.wrap_u64]; omega
  have eb:(.int .u8 ((48+u % 10:Nat):Int):T)=byT (UInt8.ofNat (48+u % 10)):=(byT_of (by omega)).symm
  have ap:m.map byT++[byT (UInt8.ofNat (48+u % 10))]=(m++[UInt8.ofNat (48+u % 10)]).map byT:=by simp
  rw [needC_true n1,tdiv10,tmod10,w2,w3,eb,ap]
  simp only [bOT]
  by_cases h10:u<10
  ·have hd:digs u=[UInt8.ofNat (48+u % 10)]:=by unfold digs; rw [revD_lt h10,Nat.mod_eq_of_lt h10]; rfl
   have d1:decide (((u / 10:Nat):Int)=0)=true:=decide_eq_true (by omega)
   have tail:∀l:List UInt8,l.length<100000→(callK (vr 116 0 [.buf 0] ⟨[(0, .arr true 1 true (l.map byT))],[]⟩) fun v_8 b_9=>
     asTup v_8 fun l_10=>endV l_10 <| consB 0 b_9 fun k_11 b_12=>asArr 1 k_11 fun nn_13 l_14=>endB b_12 <|
     needC ((1==1) &&l_14.all isByte) fun _=>some ((V.t (.str ⟨(l_14.map byteT).toArray⟩)),(⟨[],[]⟩:St)))=some (.t (.str ⟨⟨l.reverse⟩⟩),e0):=by
    intro l hl
    rw [rev35 l hl,callK_some,asTup_tup,endV_nil,consB_cons,asArr_arr,endB_nil,byT_byte,byT_back]
    rfl
   rw [d1,ct]
   cases hn:decide (n<0) with
   | true=>
    have n2:(decide (((((m++[UInt8.ofNat (48+u % 10)]).map byT)).length+1)*(1+1)≤70368744177664) &&decide (1≤1048576))=true:=by
     rw [decide_eq_true (by simp; omega)]; rfl
    have ap2:(m++[UInt8.ofNat (48+u % 10)]).map byT++[(.int .u8 45:T)]=(m++[UInt8.ofNat (48+u % 10)]++[45]).map byT:=by
     rw [List.map_append (l₂:=[45])]; rfl
    rw [ct,needC_true n2,ap2,ct]
    have:=tail (m++[UInt8.ofNat (48+u % 10)]++[45]) (by simp; omega)
    rw [hd]
    refine Eq.trans ?_ (this.trans ?_)
    ·rfl
    ·simp
   | false=>
    rw [cf,cf]
    have:=tail (m++[UInt8.ofNat (48+u % 10)]) (by simp; omega)
    rw [hd]
    refine Eq.trans ?_ (this.trans ?_)
    ·rfl
    ·simp
  ·have hd:digs u=digs (u / 10)++[UInt8.ofNat (48+u % 10)]:=by unfold digs; rw [revD_ge h10]; simp
   have hr:(revD u).length=(revD (u / 10)).length+1:=by rw [revD_ge h10]; rfl
   have d1:decide (((u / 10:Nat):Int)=0)=false:=decide_eq_false (by omega)
   rw [d1,cf,ih (u / 10) (by omega) (by omega) _ _ (by simp; omega),hd]
   congr 5
   simp
theorem revD_len :∀(k n:Nat),n<10^(k+1)→(revD n).length≤k+1
 | 0,n,h=>by rw [revD_lt (by omega)]; simp
 | k+1,n,h=>by
  by_cases h10:n<10
  ·rw [revD_lt h10]; simp
  ·rw [revD_ge h10,List.length_cons]
   have h2:n / 10<10^(k+1):=by rw [Nat.div_lt_iff_lt_mul (by omega)]; rw [Nat.pow_succ] at h; exact h
   have:=revD_len k (n / 10) h2
   omega
theorem revD_big :∀(k n:Nat),10^k≤n→k+1≤(revD n).length
 | 0,n,h=>by
  by_cases h10:n<10
  ·rw [revD_lt h10]; simp
  ·rw [revD_ge h10,List.length_cons]; omega
 | k+1,n,h=>by
  have h0:1≤10^k:=Nat.one_le_pow _ _ (by omega)
  rw [Nat.pow_succ] at h
  rw [revD_ge (by omega),List.length_cons]
  have:=revD_big k (n / 10) ((Nat.le_div_iff_mul_le (by omega)).2 h)
  omega
def digL(n:Int) :List UInt8:=(bif decide (n<0) then [45] else [])++digs n.natAbs
theorem digits17(n:Int)(h1: -9223372036854775808≤n)(h2:n<9223372036854775808) :vr 103 0 [.t (.int .i64 n)] e0=some (.t (.str ⟨⟨digL n⟩⟩),e0):=by
 rw [eq103,R103]
 have hlen:(revD n.natAbs).length≤30:=revD_len 29 _ (by omega)
 have L:=L17_spec n n.natAbs (by omega) false [] (by simp; omega)
 have e:(bif decide (n<0) then [45] else [])++digs n.natAbs++([]:List UInt8).reverse=digL n:=by unfold digL; simp
 rw [e] at L
 by_cases hn:n<0
 ·have w:IntKind.u64.wrap (0 - (IntKind.u64.wrap n))=(n.natAbs:Int):=by rw [IntKind.wrap_u64,IntKind.wrap_u64]; omega
  rw [decide_eq_true hn,ct,w]
  exact L
 ·have w:IntKind.u64.wrap n=(n.natAbs:Int):=by rw [IntKind.wrap_u64]; omega
  rw [decide_eq_false hn,cf,w]
  exact L
end Go.Proofs.Ytpfploolkmcalaa.VM
end
section
namespace Go.Proofs.Ytpfploolkmcalaa.VM
set_option linter.unusedSectionVars false
open Go AM
theorem numL_app :∀(l m:List UInt8) (n:Int),numL (l++m) n=(numL l n).bind (numL m)
 | [],m,n=>rfl
 | b::l,m,n=>by
  rw [List.cons_append]
  unfold numL
  cases isD b with
  | true=>rw [ct,ct]; exact numL_app l m _
  | false=>rfl
theorem digit_byte{d:Nat}(h:d<10) :isD (UInt8.ofNat (48+d))=true∧(UInt8.ofNat (48+d)).toNat=48+d:=by
 have h2:(UInt8.ofNat (48+d)).toNat=48+d:=by rw [UInt8.toNat_ofNat',Nat.mod_eq_of_lt (by omega)]
 refine ⟨?_,h2⟩
 unfold isD
 rw [h2]
 simp; omega
theorem dig_ok{n d:Nat}(hn:n<100000000000000000)(h:d<10) :dig (n:Int) (UInt8.ofNat (48+d))=((10*n+d:Nat):Int):=by
 unfold dig
 rw [(digit_byte h).2]
 have w1:IntKind.u8.wrap (((48+d:Nat):Int) - 48)=(d:Int):=by rw [IntKind.wrap_u8]; omega
 rw [w1,wrap64 (n:=(d:Int)) (by omega) (by omega),wrap64 (n:=10*(n:Int)) (by omega) (by omega),wrap64 (by omega) (by omega)]
 omega
theorem digs_lt{n:Nat}(h:n<10) :digs n=[UInt8.ofNat (48+n)]:=by unfold digs; rw [revD_lt h]; rfl
theorem digs_ge{n:Nat}(h:¬n<10) :digs n=digs (n / 10)++[UInt8.ofNat (48+n % 10)]:=by unfold digs; rw [revD_ge h]; simp
theorem numL_digs :∀u:Nat,u<1000000000000000000→numL (digs u) 0=some (u:Int):=by
 intro u
 induction u using Nat.strongRecOn with
 | ind u ih=>
  intro h
  by_cases h10:u<10
  ·rw [digs_lt h10]
   unfold numL
   rw [(digit_byte h10).1,ct]
   have:=dig_ok (n:=0) (d:=u) (by omega) h10
   unfold numL
   have e:((0:Nat):Int)=0:=rfl
   rw [e] at this
   rw [this]
   congr 1
   omega
  ·rw [digs_ge h10,numL_app,ih (u / 10) (by omega) (by omega)]
   have hm:u % 10<10:=by omega
   show numL [UInt8.ofNat (48+u % 10)] ((u / 10:Nat):Int)=_
   unfold numL
   rw [(digit_byte hm).1,ct,dig_ok (by omega) hm]
   unfold numL
   congr 2
   omega
theorem digs_all :∀u:Nat,(digs u).all isD=true:=by
 intro u
 induction u using Nat.strongRecOn with
 | ind u ih=>
  by_cases h10:u<10
  ·rw [digs_lt h10,List.all_cons,(digit_byte h10).1]; rfl
  ·rw [digs_ge h10,List.all_append,ih (u / 10) (by omega),List.all_cons,(digit_byte (by omega:u % 10<10)).1]; rfl
theorem digs_head :∀u:Nat,∃b t,digs u=b::t∧(u ≠0→b ≠48):=by
 intro u
 induction u using Nat.strongRecOn with
 | ind u ih=>
  by_cases h10:u<10
  ·refine ⟨_,_,digs_lt h10,fun h0 h=> ?_⟩
   have:=(digit_byte h10).2
   rw [h] at this
   have h48:(48:UInt8).toNat=48:=rfl
   omega
  ·obtain ⟨b,t,h1,h2⟩:=ih (u / 10) (by omega)
   exact ⟨b,t++[UInt8.ofNat (48+u % 10)],by rw [digs_ge h10,h1]; rfl,fun _=>h2 (by omega)⟩
theorem digs_len(u:Nat) :(digs u).length=(revD u).length:=by unfold digs; simp
theorem number_digs(u:Nat) :number (digs u)=if u<1000000000000000000 then some (u:Int) else none:=by
 obtain ⟨b,t,h1,h2⟩:=digs_head u
 by_cases h:u<1000000000000000000
 ·rw [if_pos h,←numL_digs u h]
  have hl:=revD_len 17 u (by omega)
  rw [←digs_len] at hl
  have d1:decide (18<(digs u).length)=false:=decide_eq_false (by omega)
  unfold number
  rw [h1] at d1 ⊢
  dsimp only
  rw [d1,cf]
  by_cases h0:u=0
  ·subst h0
   have:t=[]:=by
    have:=digs_lt (n:=0) (by omega)
    rw [h1] at this
    exact (List.cons.inj this).2
   subst this
   rfl
  ·rw [decide_eq_false (h2 h0),bAF,cf]
 ·rw [if_neg h]
  have hl:=revD_big 18 u (by omega)
  rw [←digs_len] at hl
  have d1:decide (18<(digs u).length)=true:=decide_eq_true (by omega)
  unfold number
  rw [h1] at d1 ⊢
  dsimp only
  rw [d1,ct]
theorem isD_first{b:UInt8}(h:isD b=true) :isL b=false∧isS b=false∧decide (b=10)=false∧(decide (b=32) || decide (b=9))=false∧decide (b=35)=false:=by
 have:=all_bytes (p:=fun b=> !isD b || (!isL b &&(!isS b &&(!decide (b=10) &&(!(decide (b=32) || decide (b=9)) && !decide (b=35)))))) (by decide+kernel) b
 rw [h] at this
 simpa using this
theorem tok_digs(u:Nat) :tok (digs u)=if u<1000000000000000000 then some (2,(u:Int)) else none:=by
 unfold tok
 rw [number_digs]
 by_cases h:u<1000000000000000000
 ·rw [if_pos h,if_pos h]
 ·rw [if_neg h,if_neg h]
  obtain ⟨b,t,h1,h2⟩:=digs_head u
  have ha:=digs_all u
  have hl:=revD_big 18 u (by omega)
  rw [←digs_len] at hl
  rw [h1] at ha hl ⊢
  have hb:isD b=true:=by rw [List.all_cons] at ha; cases hb:isD b; rw [hb] at ha; cases ha; rfl
  have hw:isWord (b::t)=false:=by unfold isWord; dsimp only; rw [(isD_first hb).1,bAF,bFA]
  rw [hw]
  cases t with
  | nil=>simp at hl
  | cons c t=>rfl
theorem digs_ne(u:Nat) :digs u ≠[]:=by obtain ⟨b,t,h,_⟩:=digs_head u; rw [h]; simp
theorem cat_some{R:Type}{a b:ByteArray}(h:a.size+b.size≤9223372036854775807)(K:ByteArray→Option R) :catC a b K=K (a++b):=by
 unfold catC
 rw [decide_eq_true h,needC_t]
theorem app_list(a b:ByteArray) :(a++b).data.toList=a.data.toList++b.data.toList:=by
 rw [ByteArray.data_append,Array.toList_append]
end Go.Proofs.Ytpfploolkmcalaa.VM
end
