/- Merged: Na1 Na2 Na3 Na4 Na5 Na6. Conditions: none. -/
import Derived.Test.YtpfploolkmcalaaJe
set_option linter.all false
section
namespace Go.Proofs.Ytpfploolkmcalaa.VM
set_option linter.unusedSectionVars false
set_option linter.unusedVariables false
open Go AM
theorem nat64{j:Nat}(h:j<9223372036854775806) :IntKind.i64.wrap ((j:Int)+1)=((j+1:Nat):Int):=by rw [wrap64 (by omega) (by omega)]; simp
def isName(s:ByteArray) :Bool:=isWord s.data.toList &&(!decide (s=⟨#[115,117,109]⟩) && !decide (s=⟨#[116,101,110,115,111,114]⟩))
theorem named49(s:ByteArray) :vr 49 0 [.t (.str s)] e0=some (.t (.bool (isName s)),e0):=by
 unfold isName
 rw [eq49,R49,word18,callK_some,asT_t,asB_bool,endB_nil]
 cases isWord s.data.toList with
 | false=>rfl
 | true=>
  rw [ct,bTA]
  cases decide (s=⟨#[115,117,109]⟩) <;>rfl
def tkN :T→Int
 | .agg (_::_:: .int _ n::_)=>n
 | _=>0
abbrev tok0 :T:=tokT ByteArray.empty 0 0
abbrev rdI(z:Bool)(l:List T)(b:Bool) :St:=⟨[(0, .var [.t (.list 3 z l), .t (.bool b)])],[]⟩
abbrev rdO(z:Bool)(l:List T)(b:Bool) :St:=⟨[(0, .var [.t (.list 3 z l), .t (.bool b)])],[500]⟩
def hdT(l:List T) :T:=match l with | x::_=>x | []=>tok0
theorem hdT_tok(l:List T)(hl:∀y∈l,IsTok y) :∃s k v,hdT l=tokT s k v:=by
 cases l with
 | nil=>exact ⟨_,_,_,rfl⟩
 | cons x r=>exact hl x (List.mem_cons_self ..)
theorem head71(z b:Bool)(l:List T)(hl:∀y∈l,IsTok y) :vr 71 0 [.ptr 0 0 0] (rdI z l b)=some (.t (hdT l),rdO z l b):=by
 rw [eq71,R71]
 cases l with
 | nil=>rfl
 | cons x r=>
  obtain ⟨s,k,v,rfl⟩:=hl x (List.mem_cons_self ..)
  have d:decide ((0:Int)<((tokT s k v::r).length:Int))=true:=decide_eq_true (by rw [List.length_cons]; omega)
  rw [d,ct]
  rfl
theorem rd_out{z:Bool}{l:List T}{b:Bool}(K:Bool→List T→Bool→Option Res) :(consB 0 (rdO z l b).blks fun c d=>W_l3b c fun b f g=>endB d <| K b f g)=K z l b:=by
 show (consB 0 [(0, .var [.t (.list 3 z l), .t (.bool b)])] fun c d=>W_l3b c fun b f g=>endB d <| K b f g)=_
 rw [consB_cons,W_l3b_at,endB_nil]
def atB(A:ByteArray)(l:List T)(b:Bool) :Bool:= !b &&(decide (tkS (hdT l)=A) &&(decide (tkK (hdT l)=3) || decide (tkK (hdT l)=1)))
theorem at31(A:ByteArray)(z b:Bool)(l:List T)(hl:∀y∈l,IsTok y) :vr 31 0 [.ptr 0 0 0, .t (.str A)] (rdI z l b)=some (.t (.bool (atB A l b)),rdO z l b):=by
 obtain ⟨s,k,v,h⟩:=hdT_tok l hl
 have h71:=head71 z b l hl
 unfold atB
 rw [eq31,R31,h71,callK_some,asT_t,h]
 unfold tokT
 rw [D_isi_at,rd_out]
 show _=some (V.t (T.bool (!b &&(decide (s=A) &&(decide (k=3) || decide (k=1))))),rdO z l b)
 cases b with
 | true=>rfl
 | false=>
  rw [bNF,ct,bTA]
  cases decide (s=A) with
  | false=>rfl
  | true=>
   rw [ct,bTA]
   cases decide (k=3) <;>rfl
theorem at_cons{A:ByteArray}{l:List T}{b:Bool}(h:atB A l b=true) :b=false∧∃x r,l=x::r:=by
 unfold atB at h
 cases b with
 | true=>cases h
 | false=>
  refine ⟨rfl, ?_⟩
  cases l with
  | nil=>
   rw [bNF,bTA] at h
   have e:(decide (tkK (hdT [])=3) || decide (tkK (hdT [])=1))=false:=rfl
   rw [e,bAF] at h
   cases h
  | cons x r=>exact ⟨x,r,rfl⟩
theorem cut_1(x:T)(r:List T)(K:List T→Option Res) :cutL (x::r) (some 1) none K=K r:=by
 have:=cutL_drop (l:=x::r) (i:=1) (by simp) K
 simpa using this
theorem maybe106(A:ByteArray)(z b:Bool)(l:List T)(hl:∀y∈l,IsTok y) :vr 106 0 [.ptr 0 0 0, .t (.str A)] (rdI z l b)=some (.t (.bool (atB A l b)),rdO z (bif atB A l b then l.tail else l) b):=by
 rw [eq106,R106,at31 A z b l hl,callK_some,asT_t,asB_bool,rd_out]
 cases h:atB A l b with
 | false=>rfl
 | true=>
  obtain ⟨_,x,r,rfl⟩:=at_cons h
  rw [ct,cut_1]
  rfl
def mustR(A:ByteArray)(l:List T)(b:Bool) :List T×Bool:=bif atB A l b then (l.tail,b) else (l,true)
theorem must72(A:ByteArray)(z b:Bool)(l:List T)(hl:∀y∈l,IsTok y) :vr 72 0 [.ptr 0 0 0, .t (.str A)] (rdI z l b)=some (.tup [],rdO z (mustR A l b).1 (mustR A l b).2):=by
 unfold mustR
 rw [eq72,R72,maybe106 A z b l hl,callK_some,asT_t,asB_bool,rd_out]
 cases atB A l b <;>rfl
def takeR(k:Int)(l:List T)(b:Bool) :T×List T×Bool:=bif b then (tok0,l,true) else bif decide (tkK (hdT l)=k) then (hdT l,l.tail,false) else (tok0,l,true)
theorem take76(k:Int)(hk:k ≠0)(z b:Bool)(l:List T)(hl:∀y∈l,IsTok y) :vr 76 0 [.ptr 0 0 0, .t (.int .i64 k)] (rdI z l b)=some (.t (takeR k l b).1,rdO z (takeR k l b).2.1 (takeR k l b).2.2):=by
 obtain ⟨s,k2,v,h⟩:=hdT_tok l hl
 unfold takeR
 rw [eq76,R76,head71 z b l hl,callK_some,asT_t,h]
 unfold tokT
 rw [D_isi_at,rd_out]
 cases b with
 | true=>rfl
 | false=>
  rw [cf,cf]
  show (bif !decide (k2=k) then _ else _)=some (V.t (bif decide (k2=k) then (T.agg [.int .i64 k2, .str s, .int .i64 v],l.tail,false) else (tok0,l,true)).1,_)
  have hkk:tkK (T.agg [.int .i64 k2, .str s, .int .i64 v])=k2:=rfl
  rw [hkk]
  cases hd:decide (k2=k) with
  | false=>rfl
  | true=>
   rw [bNT,cf,ct]
   cases l with
   | nil=>
    have:hdT []=tok0:=rfl
    rw [this] at h
    injection h with h
    have hk2:(0:Int)=k2:=by
     have:=List.cons.inj h
     injection this.1
    exact absurd (hk2.trans (of_decide_eq_true hd)).symm hk
   | cons x r=>rw [cut_1]; rfl
theorem takeR_tok(k:Int)(l:List T)(b:Bool)(hl:∀y∈l,IsTok y) :IsTok (takeR k l b).1∧(∀y∈(takeR k l b).2.1,IsTok y)∧(takeR k l b).2.1.length≤l.length:=by
 have ht:∀y∈l.tail,IsTok y:=fun y hy=>hl y (List.mem_of_mem_tail hy)
 have hlen:l.tail.length≤l.length:=by rw [List.length_tail]; omega
 have h0:IsTok tok0:=⟨_,_,_,rfl⟩
 unfold takeR
 cases b with
 | true=>exact ⟨h0,hl,Nat.le_refl _⟩
 | false=>
  rw [cf]
  cases decide (tkK (hdT l)=k) with
  | true=>exact ⟨hdT_tok l hl,ht,hlen⟩
  | false=>exact ⟨h0,hl,Nat.le_refl _⟩
theorem mustR_tok(A:ByteArray)(l:List T)(b:Bool)(hl:∀y∈l,IsTok y) :(∀y∈(mustR A l b).1,IsTok y)∧(mustR A l b).1.length≤l.length:=by
 have hlen:l.tail.length≤l.length:=by rw [List.length_tail]; omega
 unfold mustR
 cases atB A l b with
 | true=>exact ⟨fun y hy=>hl y (List.mem_of_mem_tail hy),hlen⟩
 | false=>exact ⟨hl,Nat.le_refl _⟩
def nameR(l:List T)(b:Bool) :ByteArray×List T×Bool:=(tkS (takeR 1 l b).1,(takeR 1 l b).2.1,bif isName (tkS (takeR 1 l b).1) then (takeR 1 l b).2.2 else true)
theorem name73(z b:Bool)(l:List T)(hl:∀y∈l,IsTok y) :vr 73 0 [.ptr 0 0 0] (rdI z l b)=some (.t (.str (nameR l b).1),rdO z (nameR l b).2.1 (nameR l b).2.2):=by
 obtain ⟨⟨s,k,v,h⟩,_,_⟩:=takeR_tok 1 l b hl
 unfold nameR
 rw [eq73,R73,take76 1 (by decide) z b l hl,callK_some,asT_t,h]
 unfold tokT
 rw [D_isi_at,rd_out,named49,callK_some,asT_t,asB_bool,endB_nil]
 show _=some (V.t (.str s),rdO z (takeR 1 l b).2.1 (bif isName s then (takeR 1 l b).2.2 else true))
 cases isName s <;>rfl
def sizeR(l:List T)(b:Bool) :Int×List T×Bool:=(tkN (takeR 2 l b).1,(takeR 2 l b).2)
theorem size75(z b:Bool)(l:List T)(hl:∀y∈l,IsTok y) :vr 75 0 [.ptr 0 0 0] (rdI z l b)=some (.t (.int .i64 (sizeR l b).1),rdO z (sizeR l b).2.1 (sizeR l b).2.2):=by
 obtain ⟨⟨s,k,v,h⟩,_,_⟩:=takeR_tok 2 l b hl
 unfold sizeR
 rw [eq75,R75,take76 2 (by decide) z b l hl,callK_some,asT_t,h]
 unfold tokT
 rw [D_isi_at,rd_out]
 rfl
theorem takeR_less(k:Int)(l:List T)(b:Bool)(h:(takeR k l b).2.2=false) :b=false∧(takeR k l b).2.1.length+1=l.length∨l=[]∧k=0:=by
 unfold takeR at h ⊢
 cases b with
 | true=>cases h
 | false=>
  rw [cf] at h ⊢
  cases l with
  | nil=>
   cases hd:decide (tkK (hdT [])=k) with
   | false=>rw [hd] at h; cases h
   | true=>right; exact ⟨rfl,(of_decide_eq_true hd).symm⟩
  | cons x r=>
   left
   cases hd:decide (tkK (hdT (x::r))=k) with
   | false=>rw [hd] at h; cases h
   | true=>exact ⟨rfl,rfl⟩
/-! ### lists in [ and ] -/
def loopN :Nat→Bool→List T→Bool→List ByteArray→List ByteArray×List T×Bool
 | 0,_,l,b,acc=>(acc,mustR ⟨#[93]⟩ l b)
 | n+1,ok,l,b,acc=>bif ok && !b then
   loopN n (atB ⟨#[44]⟩ (nameR l b).2.1 (nameR l b).2.2) (bif atB ⟨#[44]⟩ (nameR l b).2.1 (nameR l b).2.2 then (nameR l b).2.1.tail else (nameR l b).2.1) (nameR l b).2.2 (acc++[(nameR l b).1])
  else (acc,mustR ⟨#[93]⟩ l b)
def namesR(l:List T)(b:Bool) :List ByteArray×List T×Bool:=
 bif atB ⟨#[93]⟩ (mustR ⟨#[91]⟩ l b).1 (mustR ⟨#[91]⟩ l b).2 then ([],(mustR ⟨#[91]⟩ l b).1.tail,(mustR ⟨#[91]⟩ l b).2)
 else loopN ((mustR ⟨#[91]⟩ l b).1.length+1) true (mustR ⟨#[91]⟩ l b).1 (mustR ⟨#[91]⟩ l b).2 []
def loopZ :Nat→Bool→List T→Bool→List Int→List Int×List T×Bool
 | 0,_,l,b,acc=>(acc,mustR ⟨#[93]⟩ l b)
 | n+1,ok,l,b,acc=>bif ok && !b then
   loopZ n (atB ⟨#[44]⟩ (sizeR l b).2.1 (sizeR l b).2.2) (bif atB ⟨#[44]⟩ (sizeR l b).2.1 (sizeR l b).2.2 then (sizeR l b).2.1.tail else (sizeR l b).2.1) (sizeR l b).2.2 (acc++[(sizeR l b).1])
  else (acc,mustR ⟨#[93]⟩ l b)
def sizesR(l:List T)(b:Bool) :List Int×List T×Bool:=
 bif atB ⟨#[93]⟩ (mustR ⟨#[91]⟩ l b).1 (mustR ⟨#[91]⟩ l b).2 then ([],(mustR ⟨#[91]⟩ l b).1.tail,(mustR ⟨#[91]⟩ l b).2)
 else loopZ ((mustR ⟨#[91]⟩ l b).1.length+1) true (mustR ⟨#[91]⟩ l b).1 (mustR ⟨#[91]⟩ l b).2 []
abbrev strs(l:List ByteArray) :List T:=l.map .str
abbrev ints(l:List Int) :List T:=l.map (.int .i64 ·)
theorem tail_tok{l:List T}(hl:∀y∈l,IsTok y)(c:Bool) :(∀y∈(bif c then l.tail else l),IsTok y)∧(bif c then l.tail else l).length≤l.length:=by
 cases c with
 | true=>exact ⟨fun y hy=>hl y (List.mem_of_mem_tail hy),by rw [ct,List.length_tail]; omega⟩
 | false=>exact ⟨hl,Nat.le_refl _⟩
theorem nameR_tok(l:List T)(b:Bool)(hl:∀y∈l,IsTok y) :(∀y∈(nameR l b).2.1,IsTok y)∧(nameR l b).2.1.length≤l.length∧((nameR l b).2.2=false→(nameR l b).2.1.length<l.length):=by
 obtain ⟨_,h1,h2⟩:=takeR_tok 1 l b hl
 refine ⟨h1,h2,fun h=> ?_⟩
 have hb:(takeR 1 l b).2.2=false:=by
  unfold nameR at h
  dsimp only at h
  cases hn:isName (tkS (takeR 1 l b).1) with
  | false=>rw [hn] at h; cases h
  | true=>rw [hn] at h; exact h
 rcases takeR_less 1 l b hb with ⟨_,h3⟩ | ⟨_,h3⟩
 ·show (takeR 1 l b).2.1.length<_
  omega
 ·exact absurd h3 (by decide)
theorem sizeR_tok(l:List T)(b:Bool)(hl:∀y∈l,IsTok y) :(∀y∈(sizeR l b).2.1,IsTok y)∧(sizeR l b).2.1.length≤l.length∧((sizeR l b).2.2=false→(sizeR l b).2.1.length<l.length):=by
 obtain ⟨_,h1,h2⟩:=takeR_tok 2 l b hl
 refine ⟨h1,h2,fun h=> ?_⟩
 rcases takeR_less 2 l b h with ⟨_,h3⟩ | ⟨_,h3⟩
 ·show (takeR 2 l b).2.1.length<_
  omega
 ·exact absurd h3 (by decide)
theorem app16{n:Nat}(h:n≤1000000) :(decide ((n+1)*(16+1)≤70368744177664) &&decide (16≤1048576))=true:=by
 rw [decide_eq_true (by omega:(n+1)*(16+1)≤70368744177664)]; rfl
theorem app8{n:Nat}(h:n≤1000000) :(decide ((n+1)*(8+1)≤70368744177664) &&decide (8≤1048576))=true:=by
 rw [decide_eq_true (by omega:(n+1)*(8+1)≤70368744177664)]; rfl
theorem l77_5(z:Bool) :∀(n:Nat) (ok b:Bool) (l:List T) (acc:List ByteArray),(∀y∈l,IsTok y)→l.length+acc.length≤100000→(b=true∧0<n∨l.length<n)→
  L77_5 ok z l b (!acc.isEmpty) (strs acc)=some (.t (.list 1 (!(loopN n ok l b acc).1.isEmpty) (strs (loopN n ok l b acc).1)),rdO z (loopN n ok l b acc).2.1 (loopN n ok l b acc).2.2)
 | 0,ok,b,l,acc,hl,hb,hn=>by rcases hn with ⟨_,h⟩ | h <;>exact absurd h (by omega)
 | n+1,ok,b,l,acc,hl,hb,hn=>by
  rw [L77_5_eq,RL77_5,loopN]
  cases ok with
  | false=>
   rw [cf,bFA,cf,must72 ⟨#[93]⟩ z b l hl,callK_some,asTup_tup,endV_nil,rd_out]
  | true=>
   rw [ct,bTA]
   cases b with
   | true=>
    rw [bNT,cf,cf,must72 ⟨#[93]⟩ z true l hl,callK_some,asTup_tup,endV_nil,rd_out]
   | false=>
    obtain ⟨t1,t2,t3⟩:=nameR_tok l false hl
    have hlt:l.length<n+1:=by rcases hn with ⟨h,_⟩ | h; cases h; exact h
    obtain ⟨u1,u2⟩:=tail_tok t1 (atB ⟨#[44]⟩ (nameR l false).2.1 (nameR l false).2.2)
    have hne:(!acc.isEmpty || true)=(!(acc++[(nameR l false).1]).isEmpty):=by cases acc <;>rfl
    have hs:strs acc++[T.str (nameR l false).1]=strs (acc++[(nameR l false).1]):=by unfold strs; rw [List.map_append]; rfl
    rw [bNF,ct,ct,name73 z false l hl,callK_some,asT_t,asS_str,rd_out,needC_true (app16 (by rw [List.length_map]; omega)),maybe106 ⟨#[44]⟩ z _ _ t1,callK_some,asT_t,asB_bool,rd_out,hne,hs]
    have hlen:(bif atB ⟨#[44]⟩ (nameR l false).2.1 (nameR l false).2.2 then (nameR l false).2.1.tail else (nameR l false).2.1).length+(acc++[(nameR l false).1]).length≤100000∨(nameR l false).2.2=true:=by
     cases hb2:(nameR l false).2.2 with
     | true=>exact .inr rfl
     | false=>
      left
      have:=t3 hb2
      rw [hb2] at u2
      rw [List.length_append]
      show _+(acc.length+1)≤_
      omega
    by_cases hb2:(nameR l false).2.2=true
    ·rw [hb2]
     have hat:atB ⟨#[44]⟩ (nameR l false).2.1 true=false:=rfl
     rw [hat,cf]
     rw [L77_5_eq,RL77_5,cf,must72 ⟨#[93]⟩ z true _ t1,callK_some,asTup_tup,endV_nil,rd_out]
     cases n with
     | zero=>rfl
     | succ n=>rfl
    ·have hb3:(nameR l false).2.2=false:=by revert hb2; cases (nameR l false).2.2 <;>simp
     have h3:=t3 hb3
     rcases hlen with hlen | hlen
     ·exact l77_5 z n _ _ _ _ u1 hlen (.inr (by omega))
     ·exact absurd hlen hb2
theorem names77(z b:Bool)(l:List T)(hl:∀y∈l,IsTok y)(hb:l.length≤90000) :vr 77 0 [.ptr 0 0 0, .fn 73 [.ptr 0 0 0] []] (rdI z l b)=some (.t (.list 1 (!(namesR l b).1.isEmpty) (strs (namesR l b).1)),rdO z (namesR l b).2.1 (namesR l b).2.2):=by
 obtain ⟨m1,m2⟩:=mustR_tok ⟨#[91]⟩ l b hl
 unfold namesR
 rw [eq77,R77,must72 ⟨#[91]⟩ z b l hl,callK_some,asTup_tup,endV_nil,rd_out,maybe106 ⟨#[93]⟩ z _ _ m1,callK_some,asT_t,asB_bool,rd_out]
 cases hat:atB ⟨#[93]⟩ (mustR ⟨#[91]⟩ l b).1 (mustR ⟨#[91]⟩ l b).2 with
 | true=>rfl
 | false=>
  rw [cf,cf,cf]
  exact l77_5 z _ true _ _ [] m1 (by show _+0≤_; omega) (.inr (Nat.lt_succ_self _))
theorem l74_5(z:Bool) :∀(n:Nat) (ok b:Bool) (l:List T) (acc:List Int),(∀y∈l,IsTok y)→l.length+acc.length≤100000→(b=true∧0<n∨l.length<n)→
  L74_5 ok z l b (!acc.isEmpty) (ints acc)=some (.t (.list 1 (!(loopZ n ok l b acc).1.isEmpty) (ints (loopZ n ok l b acc).1)),rdO z (loopZ n ok l b acc).2.1 (loopZ n ok l b acc).2.2)
 | 0,ok,b,l,acc,hl,hb,hn=>by rcases hn with ⟨_,h⟩ | h <;>exact absurd h (by omega)
 | n+1,ok,b,l,acc,hl,hb,hn=>by
  rw [L74_5_eq,RL74_5,loopZ]
  cases ok with
  | false=>
   rw [cf,bFA,cf,must72 ⟨#[93]⟩ z b l hl,callK_some,asTup_tup,endV_nil,rd_out]
  | true=>
   rw [ct,bTA]
   cases b with
   | true=>
    rw [bNT,cf,cf,must72 ⟨#[93]⟩ z true l hl,callK_some,asTup_tup,endV_nil,rd_out]
   | false=>
    obtain ⟨t1,t2,t3⟩:=sizeR_tok l false hl
    have hlt:l.length<n+1:=by rcases hn with ⟨h,_⟩ | h; cases h; exact h
    obtain ⟨u1,u2⟩:=tail_tok t1 (atB ⟨#[44]⟩ (sizeR l false).2.1 (sizeR l false).2.2)
    have hne:(!acc.isEmpty || true)=(!(acc++[(sizeR l false).1]).isEmpty):=by cases acc <;>rfl
    have hs:ints acc++[T.int .i64 (sizeR l false).1]=ints (acc++[(sizeR l false).1]):=by unfold ints; rw [List.map_append]; rfl
    rw [bNF,ct,ct,size75 z false l hl,callK_some,asT_t,asI_int,rd_out,needC_true (app8 (by rw [List.length_map]; omega)),maybe106 ⟨#[44]⟩ z _ _ t1,callK_some,asT_t,asB_bool,rd_out,hne,hs]
    by_cases hb2:(sizeR l false).2.2=true
    ·rw [hb2]
     have hat:atB ⟨#[44]⟩ (sizeR l false).2.1 true=false:=rfl
     rw [hat,cf]
     rw [L74_5_eq,RL74_5,cf,must72 ⟨#[93]⟩ z true _ t1,callK_some,asTup_tup,endV_nil,rd_out]
     cases n with
     | zero=>rfl
     | succ n=>rfl
    ·have hb3:(sizeR l false).2.2=false:=by revert hb2; cases (sizeR l false).2.2 <;>simp
     have h3:=t3 hb3
     have hlen:(bif atB ⟨#[44]⟩ (sizeR l false).2.1 (sizeR l false).2.2 then (sizeR l false).2.1.tail else (sizeR l false).2.1).length+(acc++[(sizeR l false).1]).length≤100000:=by
      rw [List.length_append]
      show _+(acc.length+1)≤_
      omega
     exact l74_5 z n _ _ _ _ u1 hlen (.inr (by omega))
theorem sizes74(z b:Bool)(l:List T)(hl:∀y∈l,IsTok y)(hb:l.length≤90000) :vr 74 0 [.ptr 0 0 0, .fn 75 [.ptr 0 0 0] []] (rdI z l b)=some (.t (.list 1 (!(sizesR l b).1.isEmpty) (ints (sizesR l b).1)),rdO z (sizesR l b).2.1 (sizesR l b).2.2):=by
 obtain ⟨m1,m2⟩:=mustR_tok ⟨#[91]⟩ l b hl
 unfold sizesR
 rw [eq74,R74,must72 ⟨#[91]⟩ z b l hl,callK_some,asTup_tup,endV_nil,rd_out,maybe106 ⟨#[93]⟩ z _ _ m1,callK_some,asT_t,asB_bool,rd_out]
 cases hat:atB ⟨#[93]⟩ (mustR ⟨#[91]⟩ l b).1 (mustR ⟨#[91]⟩ l b).2 with
 | true=>rfl
 | false=>
  rw [cf,cf,cf]
  exact l74_5 z _ true _ _ [] m1 (by show _+0≤_; omega) (.inr (Nat.lt_succ_self _))
end Go.Proofs.Ytpfploolkmcalaa.VM
end
section
namespace Go.Proofs.Ytpfploolkmcalaa.VM
set_option linter.unusedSectionVars false
set_option linter.unusedVariables false
open Go AM
inductive Nd where
 | zero
 | num (n:Int)
 | ref (s:ByteArray) (ix:List ByteArray)
 | bin (o:Int) (a b:Nd)
 | neg (a:Nd)
 | sum (s:ByteArray) (a:Nd)
def ndT :Nd→T
 | .zero=> .agg [.int .i64 0, .int .i64 0, .str ByteArray.empty, .list 1 false [], .list 5 false []]
 | .num n=> .agg [.int .i64 1, .int .i64 n, .str ByteArray.empty, .list 1 false [], .list 5 false []]
 | .ref s ix=> .agg [.int .i64 2, .int .i64 0, .str s, .list 1 (!ix.isEmpty) (strs ix), .list 5 false []]
 | .bin o a b=> .agg [.int .i64 o, .int .i64 0, .str ByteArray.empty, .list 1 false [], .list 5 true [ndT a,ndT b]]
 | .neg a=> .agg [.int .i64 6, .int .i64 0, .str ByteArray.empty, .list 1 false [], .list 5 true [ndT a]]
 | .sum s a=> .agg [.int .i64 7, .int .i64 0, .str s, .list 1 false [], .list 5 true [ndT a]]
def opN :Nd→Int
 | .zero=>0 | .num _=>1 | .ref _ _=>2 | .bin o _ _=>o | .neg _=>6 | .sum _ _=>7
def nuN :Nd→Int
 | .num n=>n | _=>0
def saN :Nd→ByteArray
 | .ref s _=>s | .sum s _=>s | _=>ByteArray.empty
def ixN :Nd→List ByteArray
 | .ref _ l=>l | _=>[]
def kdN :Nd→List Nd
 | .bin _ a b=>[a,b] | .neg a=>[a] | .sum _ a=>[a] | _=>[]
theorem ndT_eq(x:Nd) :ndT x= .agg [.int .i64 (opN x), .int .i64 (nuN x), .str (saN x), .list 1 (!(ixN x).isEmpty) (strs (ixN x)), .list 5 (!(kdN x).isEmpty) ((kdN x).map ndT)]:=by
 cases x <;>rfl
theorem D_nd{R:Type}(x:Nd)(K:Int→Int→ByteArray→Bool→List T→Bool→List T→Option R) :D_iisl1l5 (ndT x) K=K (opN x) (nuN x) (saN x) (!(ixN x).isEmpty) (strs (ixN x)) (!(kdN x).isEmpty) ((kdN x).map ndT):=by
 rw [ndT_eq]; exact D_iisl1l5_at ..
def opE(A:ByteArray) :Int:=bif decide (A=⟨#[43]⟩) then 3 else bif decide (A=⟨#[45]⟩) then 4 else 0
def opM(A:ByteArray) :Int:=bif decide (A=⟨#[42]⟩) then 5 else 0
abbrev mapE :List (T×T):=[(.str ⟨#[43]⟩, .int .i64 3),(.str ⟨#[45]⟩, .int .i64 4)]
abbrev mapM :List (T×T):=[(.str ⟨#[42]⟩, .int .i64 5)]
theorem lkE{R:Type}(A:ByteArray)(K:Int→Option R) :(lkT mapE (.str A) (.int .i64 0) fun a p=>asI .i64 a K)=K (opE A):=by
 unfold lkT mapE opE
 rw [lookT]
 dsimp only [keyT]
 cases decide (A=⟨#[43]⟩) with
 | true=>exact asI_int _ _ _
 | false=>
  dsimp only
  rw [lookT]
  dsimp only [keyT]
  cases decide (A=⟨#[45]⟩) with
  | true=>exact asI_int _ _ _
  | false=>exact asI_int _ _ _
theorem lkM{R:Type}(A:ByteArray)(K:Int→Option R) :(lkT mapM (.str A) (.int .i64 0) fun a p=>asI .i64 a K)=K (opM A):=by
 unfold lkT mapM opM
 rw [lookT]
 dsimp only [keyT]
 cases decide (A=⟨#[42]⟩) with
 | true=>exact asI_int _ _ _
 | false=>exact asI_int _ _ _
abbrev PR :=List T→Bool→Nd×List T×Bool
def binL(p:PR)(sg:ByteArray→Int) :Nat→Nd→List T→Bool→Nd×List T×Bool
 | 0,x,l,b=>(x,l,b)
 | m+1,x,l,b=>bif b then (x,l,b) else bif decide (sg (tkS (hdT l))=0) then (x,l,b) else bif !decide (tkK (hdT l)=3) then (x,l,b) else
   binL p sg m (.bin (sg (tkS (hdT l))) x (p l.tail b).1) (p l.tail b).2.1 (p l.tail b).2.2
def binR(p:PR)(sg:ByteArray→Int)(l:List T)(b:Bool) :Nd×List T×Bool:=binL p sg ((p l b).2.1.length+1) (p l b).1 (p l b).2.1 (p l b).2.2
def sumR(e:PR)(l:List T)(b:Bool) :Nd×List T×Bool:=
 let m:=mustR ⟨#[40]⟩ l b
 let s:=nameR m.1 m.2
 let m2:=mustR ⟨#[44]⟩ s.2.1 s.2.2
 let x:=e m2.1 m2.2
 (.sum s.1 x.1,mustR ⟨#[41]⟩ x.2.1 x.2.2)
def facR(f e:PR)(l:List T)(b:Bool) :Nd×List T×Bool:=
 bif b then (.zero,l,b) else
 bif atB ⟨#[45]⟩ l b then (.neg (f l.tail b).1,(f l.tail b).2) else
 bif atB ⟨#[40]⟩ l b then ((e l.tail b).1,mustR ⟨#[41]⟩ (e l.tail b).2.1 (e l.tail b).2.2) else
 bif atB ⟨#[115,117,109]⟩ l b then sumR e l.tail b else
 bif decide (tkK (hdT l)=2) then (.num (tkN (takeR 2 l b).1),(takeR 2 l b).2) else
 (.ref (nameR l b).1 (namesR (nameR l b).2.1 (nameR l b).2.2).1,(namesR (nameR l b).2.1 (nameR l b).2.2).2)
def parts :Nat→Nat→PR
 | 0,_=>fun l b=>(.zero,l,b)
 | n+1,0=>facR (parts n 0) (parts n 2)
 | n+1,1=>binR (parts n 0) opM
 | n+1,_+2=>binR (parts n 1) opE
def POk(p:PR) :Prop:=∀l b,(∀y∈l,IsTok y)→(∀y∈(p l b).2.1,IsTok y)∧(p l b).2.1.length≤l.length
theorem loopN_ok :∀(n:Nat) (ok:Bool) (l:List T) (b:Bool) (acc:List ByteArray),(∀y∈l,IsTok y)→(∀y∈(loopN n ok l b acc).2.1,IsTok y)∧(loopN n ok l b acc).2.1.length≤l.length
 | 0,ok,l,b,acc,hl=>mustR_tok _ l b hl
 | n+1,ok,l,b,acc,hl=>by
  rw [loopN]
  cases ok && !b with
  | false=>exact mustR_tok _ l b hl
  | true=>
   obtain ⟨t1,t2,_⟩:=nameR_tok l b hl
   obtain ⟨u1,u2⟩:=tail_tok t1 (atB ⟨#[44]⟩ (nameR l b).2.1 (nameR l b).2.2)
   obtain ⟨i1,i2⟩:=loopN_ok n (atB ⟨#[44]⟩ (nameR l b).2.1 (nameR l b).2.2) _ (nameR l b).2.2 (acc++[(nameR l b).1]) u1
   rw [ct]
   exact ⟨i1,by omega⟩
theorem namesR_ok(l:List T)(b:Bool)(hl:∀y∈l,IsTok y) :(∀y∈(namesR l b).2.1,IsTok y)∧(namesR l b).2.1.length≤l.length:=by
 obtain ⟨m1,m2⟩:=mustR_tok ⟨#[91]⟩ l b hl
 unfold namesR
 cases atB ⟨#[93]⟩ (mustR ⟨#[91]⟩ l b).1 (mustR ⟨#[91]⟩ l b).2 with
 | true=>exact ⟨fun y hy=>m1 y (List.mem_of_mem_tail hy),by show (mustR ⟨#[91]⟩ l b).1.tail.length≤_; rw [List.length_tail]; omega⟩
 | false=>
  obtain ⟨i1,i2⟩:=loopN_ok ((mustR ⟨#[91]⟩ l b).1.length+1) true (mustR ⟨#[91]⟩ l b).1 (mustR ⟨#[91]⟩ l b).2 [] m1
  exact ⟨i1,by rw [cf]; omega⟩
theorem binL_ok{p:PR}(hp:POk p)(sg:ByteArray→Int) :∀(m:Nat) (x:Nd) (l:List T) (b:Bool),(∀y∈l,IsTok y)→(∀y∈(binL p sg m x l b).2.1,IsTok y)∧(binL p sg m x l b).2.1.length≤l.length
 | 0,x,l,b,hl=>⟨hl,Nat.le_refl _⟩
 | m+1,x,l,b,hl=>by
  have ht:∀y∈l.tail,IsTok y:=fun y hy=>hl y (List.mem_of_mem_tail hy)
  have hlen:l.tail.length≤l.length:=by rw [List.length_tail]; omega
  obtain ⟨p1,p2⟩:=hp l.tail b ht
  obtain ⟨i1,i2⟩:=binL_ok hp sg m (.bin (sg (tkS (hdT l))) x (p l.tail b).1) (p l.tail b).2.1 (p l.tail b).2.2 p1
  rw [binL]
  cases b with
  | true=>exact ⟨hl,Nat.le_refl _⟩
  | false=>
   cases decide (sg (tkS (hdT l))=0) with
   | true=>exact ⟨hl,Nat.le_refl _⟩
   | false=>
    cases !decide (tkK (hdT l)=3) with
    | true=>exact ⟨hl,Nat.le_refl _⟩
    | false=>exact ⟨i1,Nat.le_trans i2 (Nat.le_trans p2 hlen)⟩
theorem binR_ok{p:PR}(hp:POk p)(sg:ByteArray→Int) :POk (binR p sg):=fun l b hl=>by
 obtain ⟨p1,p2⟩:=hp l b hl
 obtain ⟨i1,i2⟩:=binL_ok hp sg ((p l b).2.1.length+1) (p l b).1 (p l b).2.1 (p l b).2.2 p1
 exact ⟨i1,Nat.le_trans i2 p2⟩
theorem sumR_ok{e:PR}(he:POk e) :POk (sumR e):=fun l b hl=>by
 obtain ⟨a1,a2⟩:=mustR_tok ⟨#[40]⟩ l b hl
 obtain ⟨b1,b2,_⟩:=nameR_tok _ (mustR ⟨#[40]⟩ l b).2 a1
 obtain ⟨c1,c2⟩:=mustR_tok ⟨#[44]⟩ _ (nameR (mustR ⟨#[40]⟩ l b).1 (mustR ⟨#[40]⟩ l b).2).2.2 b1
 obtain ⟨d1,d2⟩:=he _ (mustR ⟨#[44]⟩ (nameR (mustR ⟨#[40]⟩ l b).1 (mustR ⟨#[40]⟩ l b).2).2.1 (nameR (mustR ⟨#[40]⟩ l b).1 (mustR ⟨#[40]⟩ l b).2).2.2).2 c1
 obtain ⟨f1,f2⟩:=mustR_tok ⟨#[41]⟩ _ (e (mustR ⟨#[44]⟩ (nameR (mustR ⟨#[40]⟩ l b).1 (mustR ⟨#[40]⟩ l b).2).2.1 (nameR (mustR ⟨#[40]⟩ l b).1 (mustR ⟨#[40]⟩ l b).2).2.2).1 (mustR ⟨#[44]⟩ (nameR (mustR ⟨#[40]⟩ l b).1 (mustR ⟨#[40]⟩ l b).2).2.1 (nameR (mustR ⟨#[40]⟩ l b).1 (mustR ⟨#[40]⟩ l b).2).2.2).2).2.2 d1
 exact ⟨f1,by unfold sumR; dsimp only; omega⟩
theorem facR_ok{f e:PR}(hf:POk f)(he:POk e) :POk (facR f e):=fun l b hl=>by
 have ht:∀y∈l.tail,IsTok y:=fun y hy=>hl y (List.mem_of_mem_tail hy)
 have hlen:l.tail.length≤l.length:=by rw [List.length_tail]; omega
 unfold facR
 cases b with
 | true=>exact ⟨hl,Nat.le_refl _⟩
 | false=>
  rw [cf]
  cases atB ⟨#[45]⟩ l false with
  | true=>
   obtain ⟨p1,p2⟩:=hf l.tail false ht
   exact ⟨p1,Nat.le_trans p2 hlen⟩
  | false=>
   rw [cf]
   cases atB ⟨#[40]⟩ l false with
   | true=>
    obtain ⟨p1,p2⟩:=he l.tail false ht
    obtain ⟨q1,q2⟩:=mustR_tok ⟨#[41]⟩ _ (e l.tail false).2.2 p1
    exact ⟨q1,Nat.le_trans q2 (Nat.le_trans p2 hlen)⟩
   | false=>
    rw [cf]
    cases atB ⟨#[115,117,109]⟩ l false with
    | true=>
     obtain ⟨p1,p2⟩:=sumR_ok he l.tail false ht
     exact ⟨p1,Nat.le_trans p2 hlen⟩
    | false=>
     rw [cf]
     cases decide (tkK (hdT l)=2) with
     | true=>obtain ⟨_,p1,p2⟩:=takeR_tok 2 l false hl; exact ⟨p1,p2⟩
     | false=>
      obtain ⟨p1,p2,_⟩:=nameR_tok l false hl
      obtain ⟨q1,q2⟩:=namesR_ok _ (nameR l false).2.2 p1
      exact ⟨q1,Nat.le_trans q2 p2⟩
theorem parts_ok :∀(n k:Nat),POk (parts n k)
 | 0,k=>fun l b hl=>⟨hl,Nat.le_refl _⟩
 | n+1,0=>facR_ok (parts_ok n 0) (parts_ok n 2)
 | n+1,1=>binR_ok (parts_ok n 0) opM
 | n+1,k+2=>binR_ok (parts_ok n 1) opE
theorem rd_node{z:Bool}{x:Nd×List T×Bool}{L:Option (V×St)}(hL:L=some (.t (ndT x.1),rdO z x.2.1 x.2.2))(K:Int→Int→ByteArray→Bool→List T→Bool→List T→Bool→List T→Bool→Option Res) :
  (callK L fun a b=>asT a fun d=>D_iisl1l5 d fun a h i j k l m=>consB 0 b fun c n=>W_l3b c fun o p q=>endB n <| K a h i j k l m o p q)=K (opN x.1) (nuN x.1) (saN x.1) (!(ixN x.1).isEmpty) (strs (ixN x.1)) (!(kdN x.1).isEmpty) ((kdN x.1).map ndT) z x.2.1 x.2.2:=by
 rw [hL,callK_some,asT_t,D_nd,rd_out]
end Go.Proofs.Ytpfploolkmcalaa.VM
end
section
namespace Go.Proofs.Ytpfploolkmcalaa.VM
set_option linter.unusedSectionVars false
set_option linter.unusedVariables false
open Go AM
theorem tok0_kind{l:List T}{s:ByteArray}{k v:Int}(h:hdT l=tokT s k v)(hk:k ≠0) :∃x r,l=x::r:=by
 cases l with
 | nil=>
  have:hdT []=tok0:=rfl
  rw [this] at h
  injection h with h
  have:=List.cons.inj h
  injection this.1 with _ h0
  exact absurd h0.symm hk
 | cons x r=>exact ⟨x,r,rfl⟩
def Walks(f:Nat)(p:PR)(N:Nat) :Prop:=∀(z b:Bool) (l:List T),(∀y∈l,IsTok y)→l.length≤N→vr f 0 [.ptr 0 0 0] (rdI z l b)=some (.t (ndT (p l b).1),rdO z (p l b).2.1 (p l b).2.2)
theorem nd_out(x:Nd)(s:St) :(some (V.t (.agg [.int .i64 (opN x), .int .i64 (nuN x), .str (saN x), .list 1 (!(ixN x).isEmpty) (strs (ixN x)), .list 5 (!(kdN x).isEmpty) ((kdN x).map ndT)]),s):Option (V×St))=some (.t (ndT x),s):=by rw [ndT_eq]
theorem put_1{R:Type}(K:List (T×T)→Option R) :putC [] (.str ⟨#[42]⟩) (.int .i64 5) K=K mapM:=rfl
theorem put_0{R:Type}(K:List (T×T)→Option R) :(putC [] (.str ⟨#[43]⟩) (.int .i64 3) fun a=>putC a (.str ⟨#[45]⟩) (.int .i64 4) K)=K mapE:=rfl
theorem bl_1{p:PR}(hp:POk p)(N:Nat)(hw:Walks 109 p N)(z:Bool) :∀(m:Nat) (x:Nd) (l:List T) (b:Bool),(∀y∈l,IsTok y)→l.length≤N→l.length<m→
  L88v1_2 z l b mapM 0 0 ByteArray.empty false [] false [] (opN x) (nuN x) (saN x) (!(ixN x).isEmpty) (strs (ixN x)) (!(kdN x).isEmpty) ((kdN x).map ndT)=some (.t (ndT (binL p opM m x l b).1),⟨[(0, .var [.t (.list 3 z (binL p opM m x l b).2.1), .t (.bool (binL p opM m x l b).2.2)]),(1, .map mapM)],[500,501]⟩)
 | 0,x,l,b,hl,hN,hm=>absurd hm (by omega)
 | m+1,x,l,b,hl,hN,hm=>by
  rw [L88v1_2_eq,RL88v1_2,binL]
  cases b with
  | true=>rw [bNT,cf,ct]; exact nd_out x _
  | false=>
   obtain ⟨s,k,v,h⟩:=hdT_tok l hl
   have hs:tkS (hdT l)=s:=by rw [h]; rfl
   have hk:tkK (hdT l)=k:=by rw [h]; rfl
   rw [bNF,ct,head71 z false l hl,callK_some,asT_t,cf,hs,hk,h]
   unfold tokT
   rw [D_isi_at,rd_out,lkM]
   cases hd:decide (opM s=0) with
   | true=>rw [ct,ct]; exact nd_out x _
   | false=>
    rw [cf,cf,head71 z false l hl,callK_some,asT_t,h]
    unfold tokT
    rw [D_isi_at,rd_out]
    cases hd3:decide (k=3) with
    | false=>rw [bNF,ct,ct]; exact nd_out x _
    | true=>
     have hk3:k=3:=of_decide_eq_true hd3
     obtain ⟨y,r,rfl⟩:=tok0_kind h (by rw [hk3]; decide)
     have hr:∀y∈r,IsTok y:=fun y hy=>hl y (List.mem_cons_of_mem _ hy)
     have hlen:(y::r).length=r.length+1:=List.length_cons
     obtain ⟨q1,q2⟩:=hp r false hr
     rw [bNT,cf,cf,cut_1,rd_node (hw z false r hr (by omega)),←ndT_eq x,←ndT_eq (p r false).1]
     exact bl_1 hp N hw z m (.bin (opM s) x (p r false).1) _ _ q1 (by omega) (by omega)
theorem bin_1{p:PR}(hp:POk p)(N:Nat)(hw:Walks 109 p N)(z b:Bool)(l:List T)(hl:∀y∈l,IsTok y)(hN:l.length≤N) :
  vr 88 1 [.ptr 0 0 0, .fn 109 [.ptr 0 0 0] [], .map 1] ⟨[(0, .var [.t (.list 3 z l), .t (.bool b)]),(1, .map mapM)],[]⟩=some (.t (ndT (binR p opM l b).1),⟨[(0, .var [.t (.list 3 z (binR p opM l b).2.1), .t (.bool (binR p opM l b).2.2)]),(1, .map mapM)],[500,501]⟩):=by
 obtain ⟨q1,q2⟩:=hp l b hl
 unfold binR
 rw [eq88v1,R88v1,rd_node (hw z b l hl hN)]
 exact bl_1 hp N hw z _ _ _ _ q1 (by omega) (Nat.lt_succ_self _)
theorem out_1{p:PR}(hp:POk p)(N:Nat)(hw:Walks 109 p N) :Walks 89 (binR p opM) N:=fun z b l hl hN=>by
 rw [eq89,R89]
 rw [put_1]
 rw [bin_1 hp N hw z b l hl hN,callK_some,asT_t,D_nd,consB_cons,W_l3b_at,consB_cons,asMp_map,endB_nil]; exact nd_out _ _
theorem bl_0{p:PR}(hp:POk p)(N:Nat)(hw:Walks 89 p N)(z:Bool) :∀(m:Nat) (x:Nd) (l:List T) (b:Bool),(∀y∈l,IsTok y)→l.length≤N→l.length<m→
  L88_2 z l b mapE 0 0 ByteArray.empty false [] false [] (opN x) (nuN x) (saN x) (!(ixN x).isEmpty) (strs (ixN x)) (!(kdN x).isEmpty) ((kdN x).map ndT)=some (.t (ndT (binL p opE m x l b).1),⟨[(0, .var [.t (.list 3 z (binL p opE m x l b).2.1), .t (.bool (binL p opE m x l b).2.2)]),(1, .map mapE)],[500,501]⟩)
 | 0,x,l,b,hl,hN,hm=>absurd hm (by omega)
 | m+1,x,l,b,hl,hN,hm=>by
  rw [L88_2_eq,RL88_2,binL]
  cases b with
  | true=>rw [bNT,cf,ct]; exact nd_out x _
  | false=>
   obtain ⟨s,k,v,h⟩:=hdT_tok l hl
   have hs:tkS (hdT l)=s:=by rw [h]; rfl
   have hk:tkK (hdT l)=k:=by rw [h]; rfl
   rw [bNF,ct,head71 z false l hl,callK_some,asT_t,cf,hs,hk,h]
   unfold tokT
   rw [D_isi_at,rd_out,lkE]
   cases hd:decide (opE s=0) with
   | true=>rw [ct,ct]; exact nd_out x _
   | false=>
    rw [cf,cf,head71 z false l hl,callK_some,asT_t,h]
    unfold tokT
    rw [D_isi_at,rd_out]
    cases hd3:decide (k=3) with
    | false=>rw [bNF,ct,ct]; exact nd_out x _
    | true=>
     have hk3:k=3:=of_decide_eq_true hd3
     obtain ⟨y,r,rfl⟩:=tok0_kind h (by rw [hk3]; decide)
     have hr:∀y∈r,IsTok y:=fun y hy=>hl y (List.mem_cons_of_mem _ hy)
     have hlen:(y::r).length=r.length+1:=List.length_cons
     obtain ⟨q1,q2⟩:=hp r false hr
     rw [bNT,cf,cf,cut_1,rd_node (hw z false r hr (by omega)),←ndT_eq x,←ndT_eq (p r false).1]
     exact bl_0 hp N hw z m (.bin (opE s) x (p r false).1) _ _ q1 (by omega) (by omega)
theorem bin_0{p:PR}(hp:POk p)(N:Nat)(hw:Walks 89 p N)(z b:Bool)(l:List T)(hl:∀y∈l,IsTok y)(hN:l.length≤N) :
  vr 88 0 [.ptr 0 0 0, .fn 89 [.ptr 0 0 0] [], .map 1] ⟨[(0, .var [.t (.list 3 z l), .t (.bool b)]),(1, .map mapE)],[]⟩=some (.t (ndT (binR p opE l b).1),⟨[(0, .var [.t (.list 3 z (binR p opE l b).2.1), .t (.bool (binR p opE l b).2.2)]),(1, .map mapE)],[500,501]⟩):=by
 obtain ⟨q1,q2⟩:=hp l b hl
 unfold binR
 rw [eq88,R88,rd_node (hw z b l hl hN)]
 exact bl_0 hp N hw z _ _ _ _ q1 (by omega) (Nat.lt_succ_self _)
theorem out_0{p:PR}(hp:POk p)(N:Nat)(hw:Walks 89 p N) :Walks 40 (binR p opE) N:=fun z b l hl hN=>by
 rw [eq40,R40]
 rw [put_0]
 rw [bin_0 hp N hw z b l hl hN,callK_some,asT_t,D_nd,consB_cons,W_l3b_at,consB_cons,asMp_map,endB_nil]; exact nd_out _ _
theorem sum_w{e:PR}(he:POk e)(N:Nat)(hw:Walks 40 e N) :Walks 118 (sumR e) N:=fun z b l hl hN=>by
 obtain ⟨a1,a2⟩:=mustR_tok ⟨#[40]⟩ l b hl
 obtain ⟨b1,b2,_⟩:=nameR_tok _ (mustR ⟨#[40]⟩ l b).2 a1
 obtain ⟨c1,c2⟩:=mustR_tok ⟨#[44]⟩ _ (nameR (mustR ⟨#[40]⟩ l b).1 (mustR ⟨#[40]⟩ l b).2).2.2 b1
 obtain ⟨d1,d2⟩:=he _ (mustR ⟨#[44]⟩ (nameR (mustR ⟨#[40]⟩ l b).1 (mustR ⟨#[40]⟩ l b).2).2.1 (nameR (mustR ⟨#[40]⟩ l b).1 (mustR ⟨#[40]⟩ l b).2).2.2).2 c1
 unfold sumR
 dsimp only
 rw [eq118,R118,must72 ⟨#[40]⟩ z b l hl,callK_some,asTup_tup,endV_nil,rd_out,name73 z _ _ a1,callK_some,asT_t,asS_str,rd_out,must72 ⟨#[44]⟩ z _ _ b1,callK_some,asTup_tup,endV_nil,rd_out,rd_node (hw z _ _ c1 (by omega)),must72 ⟨#[41]⟩ z _ _ d1,callK_some,asTup_tup,endV_nil,rd_out,←ndT_eq]
 rfl
theorem fac_w{f e:PR}(hf:POk f)(he:POk e)(M:Nat)(hb:M≤90000)(hwf:∀N,N+1=M→Walks 109 f N)(hwe:∀N,N+1=M→Walks 40 e N) :Walks 109 (facR f e) M:=fun z b l hl hN=>by
 unfold facR
 rw [eq109,R109]
 cases b with
 | true=>rfl
 | false=>
  have ht:∀y∈l.tail,IsTok y:=fun y hy=>hl y (List.mem_of_mem_tail hy)
  have hlen:∀A,atB A l false=true→∃N,N+1=M∧l.tail.length≤N:=fun A h=>by
   obtain ⟨_,x,r,rfl⟩:=at_cons h
   have hl:(x::r).length=r.length+1:=List.length_cons
   exact ⟨M - 1,by omega,by rw [List.tail_cons]; omega⟩
  rw [cf,cf,maybe106 ⟨#[45]⟩ z false l hl,callK_some,asT_t,asB_bool,rd_out]
  cases hm:atB ⟨#[45]⟩ l false with
  | true=>
   obtain ⟨N,hN1,hN2⟩:=hlen _ hm
   rw [ct,ct,ct,rd_node (hwf N hN1 z false _ ht hN2),←ndT_eq]
   rfl
  | false=>
   rw [cf,cf,cf,maybe106 ⟨#[40]⟩ z false l hl,callK_some,asT_t,asB_bool,rd_out]
   cases hm:atB ⟨#[40]⟩ l false with
   | true=>
    obtain ⟨N,hN1,hN2⟩:=hlen _ hm
    obtain ⟨d1,d2⟩:=he l.tail false ht
    rw [ct,ct,ct,rd_node (hwe N hN1 z false _ ht hN2),must72 ⟨#[41]⟩ z _ _ d1,callK_some,asTup_tup,endV_nil,rd_out]; exact nd_out _ _
   | false=>
    rw [cf,cf,cf,maybe106 ⟨#[115,117,109]⟩ z false l hl,callK_some,asT_t,asB_bool,rd_out]
    cases hm:atB ⟨#[115,117,109]⟩ l false with
    | true=>
     obtain ⟨N,hN1,hN2⟩:=hlen _ hm
     rw [ct,ct,ct,rd_node (sum_w he N (hwe N hN1) z false _ ht hN2)]; exact nd_out _ _
    | false=>
     obtain ⟨s,k,v,h⟩:=hdT_tok l hl
     have hk:tkK (hdT l)=k:=by rw [h]; rfl
     rw [cf,cf,cf,head71 z false l hl,callK_some,asT_t,hk,h]
     unfold tokT
     rw [D_isi_at,rd_out]
     cases decide (k=2) with
     | true=>
      obtain ⟨⟨s2,k2,v2,h2⟩,_,_⟩:=takeR_tok 2 l false hl
      rw [ct,ct,take76 2 (by decide) z false l hl,callK_some,asT_t,h2]
      unfold tokT
      rw [D_isi_at,rd_out]
      rfl
     | false=>
      obtain ⟨n1,n2,_⟩:=nameR_tok l false hl
      rw [cf,cf,name73 z false l hl,callK_some,asT_t,asS_str,rd_out,names77 z _ _ n1 (by omega),callK_some,asT_t,asL_list,rd_out]
      rfl
theorem parts_w :∀(n:Nat),n≤90000→(∀N,3*N+1≤n→Walks 109 (parts n 0) N)∧(∀N,3*N+2≤n→Walks 89 (parts n 1) N)∧(∀N,3*N+3≤n→Walks 40 (parts n 2) N)
 | 0,_=>⟨fun N h=>absurd h (by omega),fun N h=>absurd h (by omega),fun N h=>absurd h (by omega)⟩
 | n+1,hn=>by
  obtain ⟨i1,i2,i3⟩:=parts_w n (by omega)
  refine ⟨fun N h=> ?_,fun N h=> ?_,fun N h=> ?_⟩
  ·exact fac_w (parts_ok n 0) (parts_ok n 2) N (by omega) (fun N' _=>i1 N' (by omega)) (fun N' _=>i3 N' (by omega))
  ·exact out_1 (parts_ok n 0) N (i1 N (by omega))
  ·exact out_0 (parts_ok n 1) N (i2 N (by omega))
end Go.Proofs.Ytpfploolkmcalaa.VM
end
section
namespace Go.Proofs.Ytpfploolkmcalaa.VM
set_option linter.unusedSectionVars false
set_option linter.unusedVariables false
open Go AM
def exprR(l:List T)(b:Bool) :Nd×List T×Bool:=parts 40000 2 l b
theorem expr_w(z b:Bool)(l:List T)(hl:∀y∈l,IsTok y)(hN:l.length≤10000) :vr 40 0 [.ptr 0 0 0] (rdI z l b)=some (.t (ndT (exprR l b).1),rdO z (exprR l b).2.1 (exprR l b).2.2):=
 (parts_w 40000 (by omega)).2.2 10000 (by omega) z b l hl hN
theorem expr_ok(l:List T)(b:Bool)(hl:∀y∈l,IsTok y) :(∀y∈(exprR l b).2.1,IsTok y)∧(exprR l b).2.1.length≤l.length:=parts_ok 40000 2 l b hl
structure Dec where
 s:ByteArray
 sh:List Int
 f:ByteArray
 k:Int
structure Stm where
 s:ByteArray
 ix:List ByteArray
 e:Nd
def deT(d:Dec) :T:= .agg [.str d.s, .list 1 (!d.sh.isEmpty) (ints d.sh), .str d.f, .int .i64 d.k]
def smT(x:Stm) :T:= .agg [.str x.s, .list 1 (!x.ix.isEmpty) (strs x.ix), .int .i64 (opN x.e), .int .i64 (nuN x.e), .str (saN x.e), .list 1 (!(ixN x.e).isEmpty) (strs (ixN x.e)), .list 5 (!(kdN x.e).isEmpty) ((kdN x.e).map ndT)]
def stmtR(l:List T)(b:Bool) :Stm×List T×Bool:=
 let n:=nameR l b
 let i:=namesR n.2.1 n.2.2
 let m:=mustR ⟨#[61]⟩ i.2.1 i.2.2
 let x:=exprR m.1 m.2
 (⟨n.1,i.1,x.1⟩,x.2)
def declR(l:List T)(b:Bool) :Dec×List T×Bool:=
 let m:=mustR ⟨#[116,101,110,115,111,114]⟩ l b
 let n:=nameR m.1 m.2
 let i:=sizesR n.2.1 n.2.2
 let q:=mustR ⟨#[58]⟩ i.2.1 i.2.2
 let f:=takeR 1 q.1 q.2
 bif decide (tkK (hdT f.2.1)=2) then (⟨n.1,i.1,tkS f.1,(sizeR f.2.1 f.2.2).1⟩,(sizeR f.2.1 f.2.2).2) else (⟨n.1,i.1,tkS f.1,0⟩,f.2)
theorem loopZ_ok :∀(n:Nat) (ok:Bool) (l:List T) (b:Bool) (acc:List Int),(∀y∈l,IsTok y)→(∀y∈(loopZ n ok l b acc).2.1,IsTok y)∧(loopZ n ok l b acc).2.1.length≤l.length
 | 0,ok,l,b,acc,hl=>mustR_tok _ l b hl
 | n+1,ok,l,b,acc,hl=>by
  rw [loopZ]
  cases ok && !b with
  | false=>exact mustR_tok _ l b hl
  | true=>
   obtain ⟨t1,t2,_⟩:=sizeR_tok l b hl
   obtain ⟨u1,u2⟩:=tail_tok t1 (atB ⟨#[44]⟩ (sizeR l b).2.1 (sizeR l b).2.2)
   obtain ⟨i1,i2⟩:=loopZ_ok n (atB ⟨#[44]⟩ (sizeR l b).2.1 (sizeR l b).2.2) _ (sizeR l b).2.2 (acc++[(sizeR l b).1]) u1
   rw [ct]
   exact ⟨i1,by omega⟩
theorem sizesR_ok(l:List T)(b:Bool)(hl:∀y∈l,IsTok y) :(∀y∈(sizesR l b).2.1,IsTok y)∧(sizesR l b).2.1.length≤l.length:=by
 obtain ⟨m1,m2⟩:=mustR_tok ⟨#[91]⟩ l b hl
 unfold sizesR
 cases atB ⟨#[93]⟩ (mustR ⟨#[91]⟩ l b).1 (mustR ⟨#[91]⟩ l b).2 with
 | true=>exact ⟨fun y hy=>m1 y (List.mem_of_mem_tail hy),by show (mustR ⟨#[91]⟩ l b).1.tail.length≤_; rw [List.length_tail]; omega⟩
 | false=>
  obtain ⟨i1,i2⟩:=loopZ_ok ((mustR ⟨#[91]⟩ l b).1.length+1) true (mustR ⟨#[91]⟩ l b).1 (mustR ⟨#[91]⟩ l b).2 [] m1
  exact ⟨i1,by rw [cf]; omega⟩
theorem stmt33(z b:Bool)(l:List T)(hl:∀y∈l,IsTok y)(hN:l.length≤10000) :vr 33 0 [.ptr 0 0 0] (rdI z l b)=some (.t (smT (stmtR l b).1),rdO z (stmtR l b).2.1 (stmtR l b).2.2):=by
 obtain ⟨a1,a2,_⟩:=nameR_tok l b hl
 obtain ⟨b1,b2⟩:=namesR_ok _ (nameR l b).2.2 a1
 obtain ⟨c1,c2⟩:=mustR_tok ⟨#[61]⟩ _ (namesR (nameR l b).2.1 (nameR l b).2.2).2.2 b1
 unfold stmtR
 dsimp only
 rw [eq33,R33,name73 z b l hl,callK_some,asT_t,asS_str,rd_out,names77 z _ _ a1 (by omega),callK_some,asT_t,asL_list,rd_out,must72 ⟨#[61]⟩ z _ _ b1,callK_some,asTup_tup,endV_nil,rd_out,rd_node (expr_w z _ _ c1 (by omega))]
 rfl
theorem decl32(z b:Bool)(l:List T)(hl:∀y∈l,IsTok y)(hN:l.length≤10000) :vr 32 0 [.ptr 0 0 0] (rdI z l b)=some (.t (deT (declR l b).1),rdO z (declR l b).2.1 (declR l b).2.2):=by
 obtain ⟨m1,m2⟩:=mustR_tok ⟨#[116,101,110,115,111,114]⟩ l b hl
 obtain ⟨a1,a2,_⟩:=nameR_tok _ (mustR ⟨#[116,101,110,115,111,114]⟩ l b).2 m1
 unfold declR
 dsimp only
 generalize hM:mustR ⟨#[116,101,110,115,111,114]⟩ l b=M at*
 obtain ⟨b1,b2⟩:=sizesR_ok _ (nameR M.1 M.2).2.2 a1
 generalize hS:sizesR (nameR M.1 M.2).2.1 (nameR M.1 M.2).2.2=S at*
 obtain ⟨c1,c2⟩:=mustR_tok ⟨#[58]⟩ _ S.2.2 b1
 generalize hC:mustR ⟨#[58]⟩ S.2.1 S.2.2=C at*
 obtain ⟨⟨fs,fk,fv,hf⟩,d1,d2⟩:=takeR_tok 1 C.1 C.2 c1
 obtain ⟨s,k,v,h⟩:=hdT_tok _ d1
 have hk:tkK (hdT (takeR 1 C.1 C.2).2.1)=k:=by rw [h]; rfl
 have hs:tkS (takeR 1 C.1 C.2).1=fs:=by rw [hf]; rfl
 rw [eq32,R32,must72 _ z b l hl,callK_some,asTup_tup,endV_nil,rd_out,hM,name73 z _ _ m1,callK_some,asT_t,asS_str,rd_out,sizes74 z _ _ a1 (by omega),callK_some,asT_t,asL_list,rd_out,hS,must72 ⟨#[58]⟩ z _ _ b1,callK_some,asTup_tup,endV_nil,rd_out,hC,take76 1 (by decide) z _ _ c1,callK_some,asT_t,hk,hs,hf]
 unfold tokT
 rw [D_isi_at,rd_out,head71 z _ _ d1,callK_some,asT_t,h]
 unfold tokT
 rw [D_isi_at,rd_out]
 cases decide (k=2) with
 | false=>rfl
 | true=>rw [ct,ct,size75 z _ _ d1,callK_some,asT_t,asI_int,rd_out]; rfl
theorem done34(z b:Bool)(l:List T) :vr 34 0 [.ptr 0 0 0] (rdI z l b)=some (.t (.bool (!b &&l.isEmpty)),rdO z l b):=by
 rw [eq34,R34]
 cases b with
 | true=>rfl
 | false=>
  have:decide ((l.length:Int)=0)=l.isEmpty:=by cases l with | nil=>rfl | cons x r=>exact decide_eq_false (by rw [List.length_cons]; omega)
  rw [this]
  rfl
/-! ### what may be -/
def badAt{A:Type}(p:A→Bool) :List A→Nat→Int
 | [],_=> -1
 | x::l,i=>bif p x then i else badAt p l (i+1)
theorem badAt_any{A:Type}(p:A→Bool) :∀(l:List A) (i:Nat),decide (0≤badAt p l i)=l.any p
 | [],i=>rfl
 | x::l,i=>by
  rw [badAt,List.any_cons]
  cases p x with
  | true=>exact decide_eq_true (Int.natCast_nonneg i)
  | false=>exact badAt_any p l (i+1)
def big(n:Int) :Bool:=decide (n<0) || decide (1000000000000000000≤n)
theorem big100(n:Int) :vr 100 0 [.t (.int .i64 n)] e0=some (.t (.bool (big n)),e0):=by
 unfold big
 rw [eq100,R100]
 cases decide (n<0) <;>rfl
theorem bad102(s:ByteArray) :vr 102 0 [.t (.str s)] e0=some (.t (.bool (!isName s)),e0):=by
 rw [eq102,R102,named49,callK_some,asT_t,asB_bool,endB_nil]
theorem getT_map{A R:Type}(f:A→T){l:List A}{i:Nat}(h:i<l.length)(K:T→Option R) :getT (l.map f) i K=K (f l[i]):=by
 unfold getT; rw [List.getElem?_map,List.getElem?_eq_getElem h]; rfl
theorem l114(z:Bool)(l:List Int)(hb:l.length≤200000) :∀(m i:Nat),m+i=l.length→L114_2 z (ints l) (l.length:Int) (i:Int)=some (.t (.int .i64 (badAt big (l.drop i) i)),e0)
 | 0,i,h=>by
  rw [L114_2_eq,RL114_2,decide_eq_false (by omega),cf,List.drop_eq_nil_of_le (by omega)]
  rfl
 | m+1,i,h=>by
  have hi:i<l.length:=by omega
  rw [L114_2_eq,RL114_2,decide_eq_true (by omega),ct,needC_true (decide_eq_true (by omega)),Int.toNat_natCast,getT_map _ hi,asI_int,big100,callK_some,asT_t,asB_bool,endB_nil,List.drop_eq_getElem_cons hi,badAt,nat64 (by omega),l114 z l hb m (i+1) (by omega)]
  cases big l[i] <;>rfl
def bigs(l:List Int) :Bool:=l.any big
theorem number50(z:Bool)(l:List Int)(hb:l.length≤200000) :vr 50 0 [.t (.list 1 z (ints l))] e0=some (.t (.bool (!bigs l)),e0):=by
 unfold bigs
 have h:=l114 z l hb l.length 0 (by omega)
 have hlen:(ints l).length=l.length:=List.length_map ..
 rw [eq50,R50,eq99,R99,eq114,R114,hlen,show (0:Int)=((0:Nat):Int) from rfl,h,callK_some,asT_t,asI_int,endB_nil,callK_some,asT_t,asB_bool,endB_nil,List.drop_zero]
 show some (V.t (.bool (!decide (0≤badAt big l 0))),e0)=_
 rw [badAt_any]
theorem l115(z:Bool)(l:List ByteArray)(hb:l.length≤200000) :∀(m i:Nat),m+i=l.length→L115_2 z (strs l) (l.length:Int) (i:Int)=some (.t (.int .i64 (badAt (fun s=> !isName s) (l.drop i) i)),e0)
 | 0,i,h=>by
  rw [L115_2_eq,RL115_2,decide_eq_false (by omega),cf,List.drop_eq_nil_of_le (by omega)]
  rfl
 | m+1,i,h=>by
  have hi:i<l.length:=by omega
  rw [L115_2_eq,RL115_2,decide_eq_true (by omega),ct,needC_true (decide_eq_true (by omega)),Int.toNat_natCast,getT_map _ hi,asS_str,bad102,callK_some,asT_t,asB_bool,endB_nil,List.drop_eq_getElem_cons hi,badAt,nat64 (by omega),l115 z l hb m (i+1) (by omega)]
  cases isName l[i] <;>rfl
def indexed(l:List ByteArray) :Bool:=decide (l.length≤4) && !l.any fun s=> !isName s
theorem natle(a b:Nat) :decide ((a:Int)≤(b:Int))=decide (a≤b):=decide_eq_decide.2 (by omega)
theorem indexed52(z:Bool)(l:List ByteArray) :vr 52 0 [.t (.list 1 z (strs l))] e0=some (.t (.bool (indexed l)),e0):=by
 unfold indexed
 have hlen:(strs l).length=l.length:=List.length_map ..
 rw [eq52,R52,hlen,show (4:Int)=((4:Nat):Int) from rfl,natle]
 cases hd:decide (l.length≤4) with
 | false=>rfl
 | true=>
  have h:=l115 z l (by have:=of_decide_eq_true hd; omega) l.length 0 (by omega)
  rw [ct,eq101,R101,eq115,R115,hlen,show (0:Int)=((0:Nat):Int) from rfl,h,callK_some,asT_t,asI_int,endB_nil,callK_some,asT_t,asB_bool,endB_nil,List.drop_zero,bTA]
  show some (V.t (.bool (!decide (0≤badAt _ l 0))),e0)=_
  rw [badAt_any]
end Go.Proofs.Ytpfploolkmcalaa.VM
end
section
namespace Go.Proofs.Ytpfploolkmcalaa.VM
set_option linter.unusedSectionVars false
set_option linter.unusedVariables false
open Go AM
set_option maxRecDepth 100000
def kidsN(o:Int) :Int:=bif decide (o=1) then 0 else bif decide (o=2) then 0 else bif decide (o=6) then 1 else bif decide (o=7) then 1 else bif decide (o=3) then 2 else bif decide (o=4) then 2 else bif decide (o=5) then 2 else -1
theorem kids93(o:Int) :vr 93 0 [.t (.int .i64 o)] e0=some (.t (.int .i64 (kidsN o)),e0):=by
 unfold kidsN
 rw [eq93,R93]
 cases decide (o=1) with
 | true=>rfl
 | false=>
  cases decide (o=2) with
  | true=>rfl
  | false=>
   cases decide (o=6) with
   | true=>rfl
   | false=>
    cases decide (o=7) with
    | true=>rfl
    | false=>
     cases decide (o=3) with
     | true=>rfl
     | false=>
      cases decide (o=4) with
      | true=>rfl
      | false=>cases decide (o=5) <;>rfl
def addC :List Int→Int→Int
 | [],s=>s
 | c::r,s=>bif decide (c<0) then -1 else addC r (IntKind.i64.wrap (s+c))
def cnt :Nd→Int→Int
 | .zero,_=> -1
 | .num n,H=>bif decide (0<H) &&(decide (0≤n) &&decide (n<1000000000000000000)) then 1 else -1
 | .ref s ix,H=>bif decide (0<H) &&(isName s &&indexed ix) then 1 else -1
 | .bin o a b,H=>bif decide (0<H) &&decide (kidsN o=2) then addC [cnt a (IntKind.i64.wrap (H - 1)),cnt b (IntKind.i64.wrap (H - 1))] 1 else -1
 | .neg a,H=>bif decide (0<H) then addC [cnt a (IntKind.i64.wrap (H - 1))] 1 else -1
 | .sum s a,H=>bif decide (0<H) &&isName s then addC [cnt a (IntKind.i64.wrap (H - 1))] 1 else -1
theorem jF(deep:Int)(A B:Int)(C:ByteArray)(D:Bool)(E:List T)(F:Bool)(G:List T)(H I:Int)(J:ByteArray)(K:Bool)(L:List T)(M:Bool)(N:List T) :J43_14 deep false A B C D E F G H I J K L M N=some (.t (.int .i64 (-1)),e0):=by
 rw [J43_14_eq,RJ43_14]; rfl
theorem jT(deep:Int)(A B:Int)(C:ByteArray)(D:Bool)(E:List T)(F:Bool)(G:List T)(H:Int)(K M:Bool)(N:List T) :J43_14 deep true A B C D E F G H 0 ⟨#[]⟩ K [] M N=L43_18 deep 1 F G (G.length:Int) 0:=by
 rw [J43_14_eq,RJ43_14,bNT,cf,show decide ((0:Int)=0)=true from rfl,bNT,cf,decide_eq_true (p:=(⟨#[]⟩:ByteArray)=⟨#[]⟩) rfl,bNT,cf]
 rfl
theorem l43(H:Int)(z:Bool)(ys:List Nd)(hb:ys.length≤1000)(hy:∀y∈ys,vr 43 0 [.t (ndT y), .t (.int .i64 (IntKind.i64.wrap (H - 1)))] e0=some (.t (.int .i64 (cnt y (IntKind.i64.wrap (H - 1)))),e0)) :
  ∀(m i:Nat) (s:Int),m+i=ys.length→L43_18 H s z (ys.map ndT) (ys.length:Int) (i:Int)=some (.t (.int .i64 (addC ((ys.drop i).map fun y=>cnt y (IntKind.i64.wrap (H - 1))) s)),e0)
 | 0,i,s,h=>by
  rw [L43_18_eq,RL43_18,decide_eq_false (by omega),cf,List.drop_eq_nil_of_le (by omega)]
  rfl
 | m+1,i,s,h=>by
  have hi:i<ys.length:=by omega
  rw [L43_18_eq,RL43_18,decide_eq_true (by omega),ct,needC_true (decide_eq_true (by omega)),Int.toNat_natCast,getT_map _ hi,D_nd,←ndT_eq,hy _ (List.getElem_mem hi),callK_some,asT_t,asI_int,endB_nil,nat64 (by omega),l43 H z ys hb hy m (i+1) _ (by omega),List.drop_eq_getElem_cons hi,List.map_cons,addC]
  cases decide (cnt ys[i] (IntKind.i64.wrap (H - 1))<0) <;>rfl
theorem l43_0{H:Int}{z:Bool}(ys:List Nd)(hb:ys.length≤1000)(hy:∀y∈ys,vr 43 0 [.t (ndT y), .t (.int .i64 (IntKind.i64.wrap (H - 1)))] e0=some (.t (.int .i64 (cnt y (IntKind.i64.wrap (H - 1)))),e0)) :
  L43_18 H 1 z (ys.map ndT) ((ys.map ndT).length:Int) 0=some (.t (.int .i64 (addC (ys.map fun y=>cnt y (IntKind.i64.wrap (H - 1))) 1)),e0):=by
 rw [List.length_map]
 exact l43 H z ys hb hy ys.length 0 1 (by omega)
theorem cn_zero(H:Int) :vr 43 0 [.t (ndT .zero), .t (.int .i64 H)] e0=some (.t (.int .i64 (cnt .zero H)),e0):=by
 rw [ndT,eq43,R43,kids93,callK_some,asT_t,asI_int,endB_nil,show decide ((0:Int)=1)=false from rfl,cf,show decide ((0:Int)=2)=false from rfl,cf,show decide ((0:Int)=7)=false from rfl,cf,show decide (kidsN 0=(([]:List T).length:Int))=false from rfl,cnt]
 cases decide (0<H) with
 | true=>rw [ct]; exact jF ..
 | false=>rw [cf,cf,cf,cf]; exact jF ..
theorem cn_num(n H:Int) :vr 43 0 [.t (ndT (.num n)), .t (.int .i64 H)] e0=some (.t (.int .i64 (cnt (.num n) H)),e0):=by
 rw [ndT,cnt,eq43,R43,kids93,callK_some,asT_t,asI_int,endB_nil]
 cases decide (0<H) with
 | true=>
  rw [ct,show decide ((1:Int)=1)=true from rfl,ct,show decide (kidsN 1=(([]:List T).length:Int))=true from rfl,ct,bTA]
  cases decide (0≤n) with
  | true=>
   rw [ct,bTA]
   cases decide (n<1000000000000000000) with
   | true=>exact (jT ..).trans (l43_0 [] (by simp) (by simp))
   | false=>exact jF ..
  | false=>rw [cf]; exact jF ..
 | false=>rw [cf,show decide ((1:Int)=1)=true from rfl,ct]; exact jF ..
theorem cn_ref(s:ByteArray)(ix:List ByteArray)(H:Int) :vr 43 0 [.t (ndT (.ref s ix)), .t (.int .i64 H)] e0=some (.t (.int .i64 (cnt (.ref s ix) H)),e0):=by
 rw [ndT,cnt,eq43,R43,kids93,callK_some,asT_t,asI_int,endB_nil]
 cases decide (0<H) with
 | true=>
  rw [ct,show decide ((2:Int)=1)=false from rfl,cf,show decide ((2:Int)=2)=true from rfl,ct,show decide (kidsN 2=(([]:List T).length:Int))=true from rfl,ct,bTA,named49,callK_some,asT_t,asB_bool,endB_nil]
  cases isName s with
  | true=>
   rw [ct,bTA,indexed52,callK_some,asT_t,asB_bool,endB_nil]
   cases indexed ix with
   | true=>exact (jT ..).trans (l43_0 [] (by simp) (by simp))
   | false=>exact jF ..
  | false=>rw [cf]; exact jF ..
 | false=>rw [cf,show decide ((2:Int)=1)=false from rfl,cf,show decide ((2:Int)=2)=true from rfl,ct]; exact jF ..
theorem cn_bin(o:Int)(a b:Nd)(H:Int)(hy:∀y∈[a,b],vr 43 0 [.t (ndT y), .t (.int .i64 (IntKind.i64.wrap (H - 1)))] e0=some (.t (.int .i64 (cnt y (IntKind.i64.wrap (H - 1)))),e0)) :vr 43 0 [.t (ndT (.bin o a b)), .t (.int .i64 H)] e0=some (.t (.int .i64 (cnt (.bin o a b) H)),e0):=by
 have hl:(([ndT a,ndT b]:List T).length:Int)=2:=rfl
 rw [ndT,cnt,eq43,R43,kids93,callK_some,asT_t,asI_int,endB_nil,hl]
 cases decide (0<H) with
 | true=>
  rw [ct,bTA]
  by_cases h1:o=1
  ·subst h1; rw [show decide ((1:Int)=1)=true from rfl,ct,show decide (kidsN 1=2)=false from rfl,cf,cf]; exact jF ..
  ·by_cases h2:o=2
   ·subst h2; rw [show decide ((2:Int)=1)=false from rfl,cf,show decide ((2:Int)=2)=true from rfl,ct,show decide (kidsN 2=2)=false from rfl,cf,cf]; exact jF ..
   ·by_cases h7:o=7
    ·subst h7; rw [show decide ((7:Int)=1)=false from rfl,cf,show decide ((7:Int)=2)=false from rfl,cf,show decide ((7:Int)=7)=true from rfl,ct,show decide (kidsN 7=2)=false from rfl,cf,cf]; exact jF ..
    ·rw [decide_eq_false h1,cf,decide_eq_false h2,cf,decide_eq_false h7,cf]
     cases decide (kidsN o=2) with
     | true=>rw [ct]; exact (jT ..).trans (l43_0 [a,b] (by simp) hy)
     | false=>rw [cf]; exact jF ..
 | false=>
  rw [cf,bFA,cf]
  cases decide (o=1) with
  | true=>rw [ct]; exact jF ..
  | false=>
   rw [cf]
   cases decide (o=2) with
   | true=>rw [ct]; exact jF ..
   | false=>
    rw [cf]
    cases decide (o=7) with
    | true=>rw [ct]; exact jF ..
    | false=>rw [cf]; exact jF ..
theorem cn_neg(a:Nd)(H:Int)(hy:∀y∈[a],vr 43 0 [.t (ndT y), .t (.int .i64 (IntKind.i64.wrap (H - 1)))] e0=some (.t (.int .i64 (cnt y (IntKind.i64.wrap (H - 1)))),e0)) :vr 43 0 [.t (ndT (.neg a)), .t (.int .i64 H)] e0=some (.t (.int .i64 (cnt (.neg a) H)),e0):=by
 rw [ndT,cnt,eq43,R43,kids93,callK_some,asT_t,asI_int,endB_nil]
 cases decide (0<H) with
 | true=>
  rw [ct,ct,show decide ((6:Int)=1)=false from rfl,cf,show decide ((6:Int)=2)=false from rfl,cf,show decide ((6:Int)=7)=false from rfl,cf,show decide (kidsN 6=(([ndT a]:List T).length:Int))=true from rfl]
  exact (jT ..).trans (l43_0 [a] (by simp) hy)
 | false=>rw [cf,cf,show decide ((6:Int)=1)=false from rfl,cf,show decide ((6:Int)=2)=false from rfl,cf,show decide ((6:Int)=7)=false from rfl,cf]; exact jF ..
theorem cn_sum(s:ByteArray)(a:Nd)(H:Int)(hy:∀y∈[a],vr 43 0 [.t (ndT y), .t (.int .i64 (IntKind.i64.wrap (H - 1)))] e0=some (.t (.int .i64 (cnt y (IntKind.i64.wrap (H - 1)))),e0)) :vr 43 0 [.t (ndT (.sum s a)), .t (.int .i64 H)] e0=some (.t (.int .i64 (cnt (.sum s a) H)),e0):=by
 rw [ndT,cnt,eq43,R43,kids93,callK_some,asT_t,asI_int,endB_nil]
 cases decide (0<H) with
 | true=>
  rw [ct,show decide ((7:Int)=1)=false from rfl,cf,show decide ((7:Int)=2)=false from rfl,cf,show decide ((7:Int)=7)=true from rfl,ct,show decide (kidsN 7=(([ndT a]:List T).length:Int))=true from rfl,ct,bTA,named49,callK_some,asT_t,asB_bool,endB_nil]
  cases isName s with
  | true=>rw [ct]; exact (jT ..).trans (l43_0 [a] (by simp) hy)
  | false=>rw [cf]; exact jF ..
 | false=>rw [cf,bFA,cf,show decide ((7:Int)=1)=false from rfl,cf,show decide ((7:Int)=2)=false from rfl,cf,show decide ((7:Int)=7)=true from rfl,ct]; exact jF ..
theorem in1{P:Nd→Prop}{a:Nd}(h:P a) :∀y∈[a],P y:=fun y hy=>by rcases List.mem_cons.1 hy with rfl | hy; exact h; cases hy
theorem in2{P:Nd→Prop}{a b:Nd}(h:P a)(h2:P b) :∀y∈[a,b],P y:=fun y hy=>by rcases List.mem_cons.1 hy with rfl | hy; exact h; exact in1 h2 y hy
theorem count43 :∀(x:Nd) (H:Int),vr 43 0 [.t (ndT x), .t (.int .i64 H)] e0=some (.t (.int .i64 (cnt x H)),e0)
 | .zero,H=>cn_zero H
 | .num n,H=>cn_num n H
 | .ref s ix,H=>cn_ref s ix H
 | .bin o a b,H=>cn_bin o a b H (in2 (P:=fun y=>vr 43 0 [.t (ndT y), .t (.int .i64 (IntKind.i64.wrap (H - 1)))] e0=some (.t (.int .i64 (cnt y (IntKind.i64.wrap (H - 1)))),e0)) (count43 a _) (count43 b _))
 | .neg a,H=>cn_neg a H (in1 (P:=fun y=>vr 43 0 [.t (ndT y), .t (.int .i64 (IntKind.i64.wrap (H - 1)))] e0=some (.t (.int .i64 (cnt y (IntKind.i64.wrap (H - 1)))),e0)) (count43 a _))
 | .sum s a,H=>cn_sum s a H (in1 (P:=fun y=>vr 43 0 [.t (ndT y), .t (.int .i64 (IntKind.i64.wrap (H - 1)))] e0=some (.t (.int .i64 (cnt y (IntKind.i64.wrap (H - 1)))),e0)) (count43 a _))
def mayN(x:Nd) :Bool:=decide (0<cnt x 16) &&decide (cnt x 16≤120)
theorem may17(x:Nd) :vr 17 0 [.t (ndT x)] e0=some (.t (.bool (mayN x)),e0):=by
 unfold mayN
 have h:=count43 x 16
 rw [ndT_eq] at h ⊢
 rw [eq17,R17,h,callK_some,asT_t,asI_int,endB_nil]
 cases decide (0<cnt x 16) <;>rfl
def decOk(d:Dec) :Bool:=isName d.s &&(decide (d.sh.length≤4) &&(!bigs d.sh &&(!big d.k &&isWord d.f.data.toList)))
def stmOk(x:Stm) :Bool:=isName x.s &&(indexed x.ix &&mayN x.e)
def chkP(D:List Dec)(S:List Stm) :Bool:=decide (D.length≤32) &&(decide (S.length≤32) &&(D.all decOk &&S.all stmOk))
theorem number1(n:Int) :vr 50 0 [.t (.list 1 true [.int .i64 n])] e0=some (.t (.bool (!big n)),e0):=by
 have:=number50 true [n] (by simp)
 rw [show bigs [n]=big n from by simp [bigs]] at this
 exact this
theorem l24_8(z:Bool)(S:List Stm)(hb:S.length≤100000) :∀(m i:Nat) (ok:Bool),m+i=S.length→L24_8 ok z (S.map smT) (S.length:Int) (i:Int)=some (.t (.int .i64 (bif ok &&(S.drop i).all stmOk then 0 else 1)),e0)
 | 0,i,ok,h=>by
  rw [L24_8_eq,RL24_8,decide_eq_false (by omega),cf,List.drop_eq_nil_of_le (by omega)]
  cases ok <;>rfl
 | m+1,i,ok,h=>by
  have hi:i<S.length:=by omega
  have ih:=fun ok=>l24_8 z S hb m (i+1) ok (by omega)
  have e:L24_8 ok z (S.map smT) (S.length:Int) (i:Int)=L24_8 (ok &&stmOk S[i]) z (S.map smT) (S.length:Int) ((i+1:Nat):Int):=by
   rw [L24_8_eq,RL24_8,decide_eq_true (by omega),ct,needC_true (decide_eq_true (by omega)),Int.toNat_natCast,getT_map _ hi,nat64 (by omega)]
   unfold smT stmOk
   rw [D_sl1iisl1l5_at]
   cases ok with
   | false=>rfl
   | true=>
    rw [ct,bTA,named49,callK_some,asT_t,asB_bool,endB_nil]
    cases isName S[i].s with
    | false=>rfl
    | true=>
     rw [ct,bTA,indexed52,callK_some,asT_t,asB_bool,endB_nil]
     cases indexed S[i].ix with
     | false=>rfl
     | true=>
      rw [ct,bTA,←ndT_eq,may17,callK_some,asT_t,asB_bool,endB_nil]
  rw [e,ih,List.drop_eq_getElem_cons hi,List.all_cons,Bool.and_assoc]
theorem l24_3(z z2 z3:Bool)(D D2:List Dec)(S:List Stm)(hb:D.length≤100000)(hs:S.length≤100000)(hsh:∀d∈D,d.sh.length≤200000) :∀(m i:Nat) (ok:Bool),m+i=D.length→L24_3 ok z (D.map deT) (D.length:Int) (i:Int) z2 (D2.map deT) z3 (S.map smT)=some (.t (.int .i64 (bif ok &&((D.drop i).all decOk &&S.all stmOk) then 0 else 1)),e0)
 | 0,i,ok,h=>by
  have hl:(S.map smT).length=S.length:=List.length_map ..
  rw [L24_3_eq,RL24_3,decide_eq_false (by omega),cf,List.drop_eq_nil_of_le (by omega),hl]
  exact l24_8 z3 S hs S.length 0 ok (by omega)
 | m+1,i,ok,h=>by
  have hi:i<D.length:=by omega
  have ih:=fun ok=>l24_3 z z2 z3 D D2 S hb hs hsh m (i+1) ok (by omega)
  have e:L24_3 ok z (D.map deT) (D.length:Int) (i:Int) z2 (D2.map deT) z3 (S.map smT)=L24_3 (ok &&decOk D[i]) z (D.map deT) (D.length:Int) ((i+1:Nat):Int) z2 (D2.map deT) z3 (S.map smT):=by
   rw [L24_3_eq,RL24_3,decide_eq_true (by omega),ct,needC_true (decide_eq_true (by omega)),Int.toNat_natCast,getT_map _ hi,nat64 (by omega)]
   unfold deT decOk
   rw [D_sl1si_at]
   cases ok with
   | false=>rfl
   | true=>
    have hl:(ints D[i].sh).length=D[i].sh.length:=List.length_map ..
    rw [ct,bTA,named49,callK_some,asT_t,asB_bool,endB_nil]
    cases isName D[i].s with
    | false=>rfl
    | true=>
     rw [ct,bTA,hl,show (4:Int)=((4:Nat):Int) from rfl,natle]
     cases decide (D[i].sh.length≤4) with
     | false=>rfl
     | true=>
      rw [ct,bTA,number50 _ _ (hsh _ (List.getElem_mem hi)),callK_some,asT_t,asB_bool,endB_nil]
      cases bigs D[i].sh with
      | true=>rfl
      | false=>
       rw [bNF,ct,bTA,number1,callK_some,asT_t,asB_bool,endB_nil]
       cases big D[i].k with
       | true=>rfl
       | false=>rw [bNF,ct,bTA,word18,callK_some,asT_t,asB_bool,endB_nil]
  rw [e,ih,List.drop_eq_getElem_cons hi,List.all_cons]
  cases ok <;>cases decOk D[i] <;>rfl
theorem check24(z z2:Bool)(D:List Dec)(S:List Stm)(hb:D.length≤100000)(hs:S.length≤100000)(hsh:∀d∈D,d.sh.length≤200000) :vr 24 0 [.t (.agg [.list 4 z (D.map deT), .list 7 z2 (S.map smT)])] e0=some (.t (.int .i64 (bif chkP D S then 0 else 1)),e0):=by
 have h1:(D.map deT).length=D.length:=List.length_map ..
 have h2:(S.map smT).length=S.length:=List.length_map ..
 unfold chkP
 rw [eq24,R24,h1,h2,show (32:Int)=((32:Nat):Int) from rfl,natle,natle]
 have h:=fun ok=>l24_3 z z z2 D D S hb hs hsh D.length 0 ok (by omega)
 cases decide (D.length≤32) with
 | true=>rw [ct,bTA]; exact h _
 | false=>rw [cf,bFA]; exact h _
end Go.Proofs.Ytpfploolkmcalaa.VM
end
section
namespace Go.Proofs.Ytpfploolkmcalaa.VM
set_option linter.unusedSectionVars false
set_option linter.unusedVariables false
open Go AM
set_option maxRecDepth 100000
def prT(D:List Dec)(S:List Stm) :T:= .agg [.list 4 (!D.isEmpty) (D.map deT), .list 7 (!S.isEmpty) (S.map smT)]
abbrev PP :=List Dec×List Stm×Int×Int
def ppV(x:PP) :V:= .tup [.t (prT x.1 x.2.1), .t (.int .i64 x.2.2.1), .t (.int .i64 x.2.2.2)]
abbrev tens :ByteArray:=⟨#[116,101,110,115,111,114]⟩
def endP(K:PP)(i:Int)(l:List T)(b late:Bool)(D:List Dec)(S:List Stm) :PP:=
 bif !(!b &&l.isEmpty) then ([],[],i,6) else bif late then ([],[],i,6) else bif !(chkP D S) then ([],[],i,2) else K
def loopP :List (List T)→Nat→List Dec→List Stm→PP
 | [],i,D,S=>(D,S,i,0)
 | l::r,i,D,S=>bif atB tens l false then
   endP (loopP r (i+1) (D++[(declR l false).1]) S) i (declR l false).2.1 (declR l false).2.2 (decide (0<S.length)) (D++[(declR l false).1]) S
  else endP (loopP r (i+1) D (S++[(stmtR l false).1])) i (stmtR l false).2.1 (stmtR l false).2.2 false D (S++[(stmtR l false).1])
theorem loopZ_len :∀(n:Nat) (ok:Bool) (l:List T) (b:Bool) (acc:List Int),(loopZ n ok l b acc).1.length≤acc.length+n
 | 0,ok,l,b,acc=>Nat.le_refl _
 | n+1,ok,l,b,acc=>by
  rw [loopZ]
  cases ok && !b with
  | false=>exact Nat.le_add_right ..
  | true=>
   have:=loopZ_len n (atB ⟨#[44]⟩ (sizeR l b).2.1 (sizeR l b).2.2) (bif atB ⟨#[44]⟩ (sizeR l b).2.1 (sizeR l b).2.2 then (sizeR l b).2.1.tail else (sizeR l b).2.1) (sizeR l b).2.2 (acc++[(sizeR l b).1])
   rw [List.length_append,List.length_singleton] at this
   rw [ct]; omega
theorem declR_len(l:List T)(hl:∀y∈l,IsTok y) :(declR l false).1.sh.length≤l.length+1:=by
 have h1:=(mustR_tok tens l false hl)
 have h2:=(nameR_tok _ (mustR tens l false).2 h1.1)
 have h3:=mustR_tok ⟨#[91]⟩ _ (nameR (mustR tens l false).1 (mustR tens l false).2).2.2 h2.1
 have e:(declR l false).1.sh=(sizesR (nameR (mustR tens l false).1 (mustR tens l false).2).2.1 (nameR (mustR tens l false).1 (mustR tens l false).2).2.2).1:=by
  unfold declR; dsimp only; cases decide (tkK _=2) <;>rfl
 rw [e]
 unfold sizesR
 cases atB ⟨#[93]⟩ _ _ with
 | true=>exact Nat.zero_le _
 | false=>
  rw [cf]
  have:=loopZ_len ((mustR ⟨#[91]⟩ (nameR (mustR tens l false).1 (mustR tens l false).2).2.1 (nameR (mustR tens l false).1 (mustR tens l false).2).2.2).1.length+1) true (mustR ⟨#[91]⟩ (nameR (mustR tens l false).1 (mustR tens l false).2).2.1 (nameR (mustR tens l false).1 (mustR tens l false).2).2.2).1 (mustR ⟨#[91]⟩ (nameR (mustR tens l false).1 (mustR tens l false).2).2.1 (nameR (mustR tens l false).1 (mustR tens l false).2).2.2).2 []
  have h0:([]:List Int).length=0:=rfl
  omega
theorem need_p{n c:Nat}(h:n≤100000)(hc:c≤200) :(decide ((n+1)*(c+1)≤70368744177664) &&decide (c≤1048576))=true:=by
 have:(n+1)*(c+1)≤100001*201:=Nat.mul_le_mul (by omega) (by omega)
 rw [decide_eq_true (p:=(n+1)*(c+1)≤70368744177664) (by omega),decide_eq_true (p:=c≤1048576) (by omega)]; rfl
theorem dec_out{R:Type}(d:Dec)(K:ByteArray→Bool→List T→ByteArray→Int→Option R) :D_sl1si (deT d) K=K d.s (!d.sh.isEmpty) (ints d.sh) d.f d.k:=D_sl1si_at ..
theorem j10(z8 z zz:Bool)(L8 r:List T)(i D C:Int)(late:Bool)(Ds:List Dec)(Ss:List Stm)(I:Bool)(l:List T)(b:Bool)(K:PP)(hD:Ds.length≤100000)(hS:Ss.length≤100000)(hsh:∀d∈Ds,d.sh.length≤200000)
  (hK:L10_6 z8 L8 zz r C (IntKind.i64.wrap (D+1)) (!Ds.isEmpty) (Ds.map deT) (!Ss.isEmpty) (Ss.map smT)=some (ppV K,e0)):
  J10_14 z8 L8 i late zz r C D (!Ds.isEmpty) (Ds.map deT) (!Ss.isEmpty) (Ss.map smT) I l b=some (ppV (endP K i l b late Ds Ss),e0):=by
 rw [J10_14_eq,RJ10_14,done34,callK_some,asT_t,asB_bool,rd_out]
 unfold endP
 cases !b &&l.isEmpty with
 | false=>rfl
 | true=>
  rw [bNT,cf,cf]
  cases late with
  | true=>rfl
  | false=>
   rw [cf,cf,check24 _ _ Ds Ss hD hS hsh,callK_some,asT_t,asI_int,endB_nil]
   cases chkP Ds Ss with
   | false=>rfl
   | true=>exact hK
theorem l10(z8 zz:Bool)(r:List T)(ls:List (List T))(hr:IsLines r ls)(hb:ls.length≤5000)(hl:∀p∈ls,(∀y∈p,IsTok y)∧p.length≤9000) :
  ∀(m i:Nat) (D:List Dec) (S:List Stm),m+i=ls.length→D.length≤i→S.length≤i→(∀d∈D,d.sh.length≤200000)→
  L10_6 z8 r zz r (r.length:Int) (i:Int) (!D.isEmpty) (D.map deT) (!S.isEmpty) (S.map smT)=some (ppV (loopP (ls.drop i) i D S),e0)
 | 0,i,D,S,h,hD,hS,hsh=>by
  have hlen:=All2.length hr
  rw [L10_6_eq,RL10_6,decide_eq_false (by omega),cf,List.drop_eq_nil_of_le (by omega),hlen,←h,Nat.zero_add]
  rfl
 | m+1,i,D,S,h,hD,hS,hsh=>by
  have hlen:=All2.length hr
  have hi:i<ls.length:=by omega
  have hir:i<r.length:=by omega
  obtain ⟨p,hp,z,hz⟩:=All2.get hr (List.getElem?_eq_getElem hir)
  have hp':ls[i]=p:=by rw [List.getElem?_eq_getElem hi] at hp; exact Option.some.inj hp
  obtain ⟨hpt,hpl⟩:=hl p (hp'▸List.getElem_mem hi)
  have hg:∀{R:Type} (K:T→Option R),getT r i K=K (.list 3 z p):=fun K=>by unfold getT; rw [List.getElem?_eq_getElem hir,hz]
  have hDl:(D.map deT).length=D.length:=List.length_map ..
  have hSl:(S.map smT).length=S.length:=List.length_map ..
  rw [L10_6_eq,RL10_6,decide_eq_true (by omega),ct,needC_true (decide_eq_true (by omega)),Int.toNat_natCast,hg,asL_list,at31 tens z false p hpt,callK_some,asT_t,asB_bool,rd_out,List.drop_eq_getElem_cons hi,hp',loopP]
  cases atB tens p false with
  | true=>
   have hne:(!D.isEmpty || true)=(!(D++[(declR p false).1]).isEmpty):=by cases D <;>rfl
   have hm:D.map deT++[deT (declR p false).1]=(D++[(declR p false).1]).map deT:=by rw [List.map_append]; rfl
   have hsz:=declR_len p hpt
   have hsh':∀d∈D++[(declR p false).1],d.sh.length≤200000:=fun d hd=>by
    rcases List.mem_append.1 hd with hd | hd
    ·exact hsh d hd
    ·rw [List.mem_singleton.1 hd]; omega
   have hlate:decide (0<(S.length:Int))=decide (0<S.length):=decide_eq_decide.2 (by omega)
   rw [ct,ct,decl32 z false p hpt (by omega),callK_some,asT_t,dec_out,rd_out,needC_true (need_p (by omega) (by omega)),hne,hSl,hlate]
   have hD':(D++[(declR p false).1]).length=D.length+1:=by rw [List.length_append]; rfl
   refine (congrArg (fun x=>J10_14 z8 r (i:Int) (decide (0<S.length)) zz r (r.length:Int) (i:Int) (!(D++[(declR p false).1]).isEmpty) x (!S.isEmpty) (S.map smT) z (declR p false).2.1 (declR p false).2.2) hm).trans ?_
   exact j10 z8 z zz r r i i r.length _ _ S z _ _ _ (by omega) (by omega) hsh' (by rw [nat64 (by omega)]; exact l10 z8 zz r ls hr hb hl m (i+1) _ S (by omega) (by omega) (by omega) hsh')
  | false=>
   have hne:(!S.isEmpty || true)=(!(S++[(stmtR p false).1]).isEmpty):=by cases S <;>rfl
   have hm:S.map smT++[smT (stmtR p false).1]=(S++[(stmtR p false).1]).map smT:=by rw [List.map_append]; rfl
   have hS':(S++[(stmtR p false).1]).length=S.length+1:=by rw [List.length_append]; rfl
   rw [cf,cf,stmt33 z false p hpt (by omega),callK_some,asT_t]
   unfold smT at hm hSl ⊢
   rw [D_sl1iisl1l5_at,rd_out,needC_true (need_p (by omega) (by omega)),hne]
   refine (congrArg (fun x=>J10_14 z8 r (i:Int) false zz r (r.length:Int) (i:Int) (!D.isEmpty) (D.map deT) (!(S++[(stmtR p false).1]).isEmpty) x z (stmtR p false).2.1 (stmtR p false).2.2) hm).trans ?_
   exact j10 z8 z zz r r i i r.length false D _ z _ _ _ (by omega) (by omega) hsh (by rw [nat64 (by omega)]; exact l10 z8 zz r ls hr hb hl m (i+1) D _ (by omega) (by omega) (by omega) hsh)
theorem splitL_le :∀(l:List T),∀p∈splitL l,p.length≤l.length
 | [],p,h=>by rw [splitL_nil,List.mem_singleton] at h; rw [h]; exact Nat.le_refl _
 | x::l,p,h=>by
  have hc:(x::l).length=l.length+1:=List.length_cons
  rw [splitL_cons] at h
  cases hx:isLn x with
  | true=>
   rw [hx,ct] at h
   rcases List.mem_cons.1 h with rfl | h
   ·exact Nat.zero_le _
   ·have:=splitL_le l p h; omega
  | false=>
   rw [hx,cf] at h
   cases hs:splitL l with
   | nil=>rw [hs] at h; rw [List.mem_singleton.1 h]; simp
   | cons a t=>
    rw [hs] at h
    rcases List.mem_cons.1 h with rfl | h
    ·have:=splitL_le l a (by rw [hs]; exact List.mem_cons_self ..); rw [List.length_cons]; omega
    ·have:=splitL_le l p (by rw [hs]; exact List.mem_cons_of_mem _ h); omega
def linesOf(l:List T) :List (List T):=if l=[] then [] else splitL l
def progR(l:List T) :PP:=loopP (linesOf l) 0 [] []
def parseV :V→PP
 | .tup [.t (.list _ _ l), .t (.int _ n), .t (.int _ e)]=>bif !decide (e=0) then ([],[],n,e) else progR l
 | _=>([],[],0,0)
theorem cutOf_full(s:ByteArray) :∃z l n e,cutOf s= .tup [.t (.list 3 z l), .t (.int .i64 n), .t (.int .i64 e)]∧(z=false→l=[])∧(∀x∈l,IsTok x)∧l.length≤4096:=by
 obtain ⟨z,l,n,e,h,h1,h2⟩:=cutOf_form s
 refine ⟨z,l,n,e,h,fun hz=> ?_,h1,h2⟩
 unfold cutOf at h
 cases hd:decide (65536<s.size) with
 | true=>
  rw [hd,ct] at h
  injection h with h
  injection h with h
  injection h with h
  injection h with _ _ h
  exact h.symm
 | false=>
  rw [hd,cf] at h
  cases hc:cutS (s.size+1) s.data.toList 0 false [] with
  | err p=>
   rw [hc] at h
   injection h with h
   injection h with h
   injection h with h
   injection h with _ _ h
   exact h.symm
  | ok out=>
   rw [hc] at h
   unfold cutV at h
   dsimp only at h
   cases hd2:decide (4096<out.length) with
   | true=>
    rw [hd2,ct] at h
    injection h with h
    injection h with h
    injection h with h
    injection h with _ _ h
    exact h.symm
   | false=>
    rw [hd2,cf] at h
    injection h with h
    injection h with h
    injection h with h
    injection h with _ h3 h
    rw [hz] at h3
    rw [←h]
    cases out with
    | nil=>rfl
    | cons x r=>cases h3
def pp0(n e:Int) :PP:=([],[],n,e)
theorem parse10(s:ByteArray) :vr 10 0 [.t (.str s)] e0=some (ppV (parseV (cutOf s)),e0):=by
 obtain ⟨z,l,n,e,h,h1,h2,h3⟩:=cutOf_full s
 rw [eq10,R10,cut12,callK_some,h,asTup_tup,consV_cons,asT_t,asL_list,consV_cons,asT_t,asI_int,consV_cons,asT_t,asI_int,endV_nil,endB_nil]
 unfold parseV
 dsimp only
 cases decide (e=0) with
 | false=>rfl
 | true=>
  obtain ⟨zz,r,hv,hr⟩:=lines22 z l h1 h2 (by omega)
  have hp:∀p∈linesOf l,(∀y∈p,IsTok y)∧p.length≤9000:=fun p hp=>by
   unfold linesOf at hp
   split at hp
   ·cases hp
   ·exact ⟨fun y hy=>h2 y (splitL_mem l p hp y hy).1,by have:=splitL_le l p hp; omega⟩
  have hlen:(linesOf l).length≤5000:=by
   unfold linesOf
   split
   ·exact Nat.zero_le _
   ·have:=splitL_len l; omega
  rw [bNT,cf,cf,hv,callK_some,asT_t,asL_list,endB_nil]
  exact l10 zz zz r (linesOf l) hr hlen hp (linesOf l).length 0 [] [] (by omega) (Nat.le_refl _) (Nat.le_refl _) (fun d hd=>by cases hd)
end Go.Proofs.Ytpfploolkmcalaa.VM
end
