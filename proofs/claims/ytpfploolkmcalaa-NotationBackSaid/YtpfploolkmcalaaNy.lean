/- Merged: Na7 Na8 Na9 Nb1 Nb2 Nb3 Nb4. Conditions: none. -/
import Derived.Test.YtpfploolkmcalaaNx
import Derived.Test.YtpfploolkmcalaaJd
set_option linter.all false
section
namespace Go.Proofs.Ytpfploolkmcalaa.VM
set_option linter.unusedSectionVars false
set_option linter.unusedVariables false
open Go AM
set_option maxRecDepth 100000
abbrev penI(z:Bool)(l:List T) :St:=⟨[(0, .var [.buf 1]),(1, .arr true 3 z l)],[]⟩
abbrev penO(l:List T) :St:=⟨[(0, .var [.buf 500]),(500, .arr true 3 true l)],[500,501]⟩
abbrev sgT(s:ByteArray) :T:=tokT s 3 0
abbrev wdT(s:ByteArray) :T:=tokT s 1 0
abbrev dgT(n:Int) :T:=tokT ⟨⟨digL n⟩⟩ 2 n
theorem pen_call{R:Type}{l:List T}{L:Option (V×St)}(hL:L=some (.tup [],penO l))(K:Bool→List T→Option R) :
  (callK L fun a b=>asTup a fun c=>endV c <| consB 0 b fun a c=>asVar a fun b=>consV b fun a d=>isBuf 500 a <| endV d <| consB 500 c fun a b=>asArr 3 a fun c d=>endB b <| K c d)=K true l:=by
 rw [hL,callK_some,asTup_tup,endV_nil,consB_cons,asVar_var,consV_cons,isBuf_buf,endV_nil,consB_cons,asArr_arr,endB_nil]
theorem need32{n:Nat}(h:n≤1000000000) :(decide ((n+1)*(32+1)≤70368744177664) &&decide (32≤1048576))=true:=by
 rw [decide_eq_true (p:=(n+1)*(32+1)≤70368744177664) (by omega)]; rfl
theorem sign57(A:ByteArray)(z:Bool)(l:List T)(h:l.length≤1000000000) :vr 57 0 [.ptr 0 0 0, .t (.str A)] (penI z l)=some (.tup [],penO (l++[sgT A])):=by
 rw [eq57,R57,needC_true (need32 h),bOT]; rfl
theorem word54(A:ByteArray)(z:Bool)(l:List T)(h:l.length≤1000000000) :vr 54 0 [.ptr 0 0 0, .t (.str A)] (penI z l)=some (.tup [],penO (l++[wdT A])):=by
 rw [eq54,R54,needC_true (need32 h),bOT]; rfl
theorem digits56(n:Int)(h1: -9223372036854775808≤n)(h2:n<9223372036854775808)(z:Bool)(l:List T)(h:l.length≤1000000000) :vr 56 0 [.ptr 0 0 0, .t (.int .i64 n)] (penI z l)=some (.tup [],penO (l++[dgT n])):=by
 rw [eq56,R56,digits17 n h1 h2,callK_some,asT_t,asS_str,endB_nil,needC_true (need32 h),bOT]; rfl
def restT :List T→List T
 | []=>[]
 | y::r=>sgT ⟨#[44]⟩::y::restT r
def commas :List T→List T
 | []=>[]
 | x::r=>x::restT r
def pList(l:List T) :List T:=sgT ⟨#[91]⟩::(commas l++[sgT ⟨#[93]⟩])
theorem restT_len :∀l:List T,(restT l).length=2*l.length
 | []=>rfl
 | y::r=>by rw [restT,List.length_cons,List.length_cons,restT_len r,List.length_cons]; omega
theorem pList_len(l:List T) :(pList l).length≤2*l.length+2:=by
 cases l with
 | nil=>exact Nat.le_refl _
 | cons x r=>rw [pList,commas,List.length_cons,List.length_append,List.length_cons,restT_len,List.length_cons,List.length_cons,List.length_nil]; omega
theorem l58(z:Bool)(ls:List ByteArray)(hb:ls.length≤100000) :∀(m i:Nat) (z2:Bool) (out:List T),m+i=ls.length→0<i→out.length+2*m+1≤1000000000→
  L58_2 z (strs ls) (ls.length:Int) (i:Int) z2 out=some (.tup [],penO (out++(restT ((ls.drop i).map wdT)++[sgT ⟨#[93]⟩])))
 | 0,i,z2,out,h,hi0,ho=>by
  rw [L58_2_eq,RL58_2,decide_eq_false (by omega),cf,pen_call (sign57 ⟨#[93]⟩ z2 out (by omega)),List.drop_eq_nil_of_le (by omega)]
  rfl
 | m+1,i,z2,out,h,hi0,ho=>by
  have hi:i<ls.length:=by omega
  have h1:(out++[sgT ⟨#[44]⟩]).length=out.length+1:=by rw [List.length_append]; rfl
  have h2:(out++[sgT ⟨#[44]⟩]++[wdT ls[i]]).length=out.length+2:=by rw [List.length_append,h1]; rfl
  rw [L58_2_eq,RL58_2,decide_eq_true (by omega),ct,needC_true (decide_eq_true (by omega)),Int.toNat_natCast,getT_map _ hi,asS_str,decide_eq_true (by omega),ct,pen_call (sign57 ⟨#[44]⟩ z2 out (by omega)),pen_call (word54 ls[i] true _ (by omega)),nat64 (by omega),l58 z ls hb m (i+1) true _ (by omega) (by omega) (by omega),List.drop_eq_getElem_cons hi,List.map_cons,restT,List.append_assoc,List.append_assoc]
  rfl
theorem list58(z z2:Bool)(ls:List ByteArray)(out:List T)(hb:ls.length≤100000)(ho:out.length≤900000000) :
  vr 58 0 [.ptr 0 0 0, .t (.list 1 z (strs ls)), .fn 54 [.ptr 0 0 0] []] (penI z2 out)=some (.tup [],penO (out++pList (ls.map wdT))):=by
 have hl:(strs ls).length=ls.length:=List.length_map ..
 have h1:(out++[sgT ⟨#[91]⟩]).length=out.length+1:=by rw [List.length_append]; rfl
 rw [eq58,R58,pen_call (sign57 ⟨#[91]⟩ z2 out (by omega)),hl]
 cases ls with
 | nil=>
  rw [L58_2_eq,RL58_2,show decide ((0:Int)<(([]:List ByteArray).length:Int))=false from rfl,cf,pen_call (sign57 ⟨#[93]⟩ true _ (by omega)),List.append_assoc]
  rfl
 | cons x r=>
  have hc:(x::r).length=r.length+1:=List.length_cons
  have h2:(out++[sgT ⟨#[91]⟩]++[wdT x]).length=out.length+2:=by rw [List.length_append,h1]; rfl
  have hg:∀(K:T→Option Res),getT (strs (x::r)) (0:Int).toNat K=K (.str x):=fun K=>rfl
  have e:=l58 z (x::r) hb r.length 1 true (out++[sgT ⟨#[91]⟩]++[wdT x]) (by omega) (by omega) (by omega)
  rw [L58_2_eq,RL58_2,decide_eq_true (by omega),ct,show decide ((0:Int)≤0)=true from rfl,needC_true rfl,hg,asS_str,show decide ((0:Int)<0)=false from rfl,cf,pen_call (word54 x true _ (by omega)),show IntKind.i64.wrap (0+1)=((1:Nat):Int) from rfl,e,List.append_assoc,List.append_assoc]
  rfl
theorem l55(z:Bool)(ls:List Int)(hb:ls.length≤100000)(hr:∀n∈ls, -9223372036854775808≤n∧n<9223372036854775808) :∀(m i:Nat) (z2:Bool) (out:List T),m+i=ls.length→0<i→out.length+2*m+1≤1000000000→
  L55_2 z (ints ls) (ls.length:Int) (i:Int) z2 out=some (.tup [],penO (out++(restT ((ls.drop i).map dgT)++[sgT ⟨#[93]⟩])))
 | 0,i,z2,out,h,hi0,ho=>by
  rw [L55_2_eq,RL55_2,decide_eq_false (by omega),cf,pen_call (sign57 ⟨#[93]⟩ z2 out (by omega)),List.drop_eq_nil_of_le (by omega)]
  rfl
 | m+1,i,z2,out,h,hi0,ho=>by
  have hi:i<ls.length:=by omega
  have h1:(out++[sgT ⟨#[44]⟩]).length=out.length+1:=by rw [List.length_append]; rfl
  have h2:(out++[sgT ⟨#[44]⟩]++[dgT ls[i]]).length=out.length+2:=by rw [List.length_append,h1]; rfl
  obtain ⟨r1,r2⟩:=hr _ (List.getElem_mem hi)
  rw [L55_2_eq,RL55_2,decide_eq_true (by omega),ct,needC_true (decide_eq_true (by omega)),Int.toNat_natCast,getT_map _ hi,asI_int,decide_eq_true (by omega),ct,pen_call (sign57 ⟨#[44]⟩ z2 out (by omega)),pen_call (digits56 ls[i] r1 r2 true _ (by omega)),nat64 (by omega),l55 z ls hb hr m (i+1) true _ (by omega) (by omega) (by omega),List.drop_eq_getElem_cons hi,List.map_cons,restT,List.append_assoc,List.append_assoc]
  rfl
theorem list55(z z2:Bool)(ls:List Int)(out:List T)(hb:ls.length≤100000)(hr:∀n∈ls, -9223372036854775808≤n∧n<9223372036854775808)(ho:out.length≤900000000) :
  vr 55 0 [.ptr 0 0 0, .t (.list 1 z (ints ls)), .fn 56 [.ptr 0 0 0] []] (penI z2 out)=some (.tup [],penO (out++pList (ls.map dgT))):=by
 have hl:(ints ls).length=ls.length:=List.length_map ..
 have h1:(out++[sgT ⟨#[91]⟩]).length=out.length+1:=by rw [List.length_append]; rfl
 rw [eq55,R55,pen_call (sign57 ⟨#[91]⟩ z2 out (by omega)),hl]
 cases ls with
 | nil=>
  rw [L55_2_eq,RL55_2,show decide ((0:Int)<(([]:List Int).length:Int))=false from rfl,cf,pen_call (sign57 ⟨#[93]⟩ true _ (by omega)),List.append_assoc]
  rfl
 | cons x r=>
  have hc:(x::r).length=r.length+1:=List.length_cons
  have h2:(out++[sgT ⟨#[91]⟩]++[dgT x]).length=out.length+2:=by rw [List.length_append,h1]; rfl
  have hg:∀(K:T→Option Res),getT (ints (x::r)) (0:Int).toNat K=K (.int .i64 x):=fun K=>rfl
  obtain ⟨r1,r2⟩:=hr x (List.mem_cons_self ..)
  have e:=l55 z (x::r) hb hr r.length 1 true (out++[sgT ⟨#[91]⟩]++[dgT x]) (by omega) (by omega) (by omega)
  rw [L55_2_eq,RL55_2,decide_eq_true (by omega),ct,show decide ((0:Int)≤0)=true from rfl,needC_true rfl,hg,asI_int,show decide ((0:Int)<0)=false from rfl,cf,pen_call (digits56 x r1 r2 true _ (by omega)),show IntKind.i64.wrap (0+1)=((1:Nat):Int) from rfl,e,List.append_assoc,List.append_assoc]
  rfl
end Go.Proofs.Ytpfploolkmcalaa.VM
end
section
namespace Go.Proofs.Ytpfploolkmcalaa.VM
set_option linter.unusedSectionVars false
set_option linter.unusedVariables false
open Go AM
set_option maxRecDepth 100000
def wf :Nat→Nd→Bool
 | 0,_=>false
 | _+1, .zero=>false
 | _+1, .num n=>decide (0≤n) &&decide (n<1000000000000000000)
 | _+1, .ref s ix=>isName s &&indexed ix
 | h+1, .bin o a b=>decide (kidsN o=2) &&(wf h a &&wf h b)
 | h+1, .neg a=>wf h a
 | h+1, .sum s a=>isName s &&wf h a
theorem addC_1{c s:Int}(h:0≤addC [c] s) :0≤c:=by
 unfold addC at h
 cases hd:decide (c<0) with
 | true=>rw [hd,ct] at h; exact absurd h (by decide)
 | false=>have:=of_decide_eq_false hd; omega
theorem addC_2{c d s:Int}(h:0≤addC [c,d] s) :0≤c∧0≤d:=by
 unfold addC at h
 cases hd:decide (c<0) with
 | true=>rw [hd,ct] at h; exact absurd h (by decide)
 | false=>
  rw [hd,cf] at h
  exact ⟨by have:=of_decide_eq_false hd; omega,addC_1 h⟩
theorem pred64{n:Nat}(h:n≤1000) :IntKind.i64.wrap (((n+1:Nat):Int) - 1)=(n:Int):=by rw [wrap64 (by omega) (by omega)]; omega
theorem cond_nn{c:Bool}{x:Int}(h:0≤(bif c then x else -1)) :c=true∧0≤x:=by
 cases c with
 | true=>exact ⟨rfl,h⟩
 | false=>rw [cf] at h; exact absurd h (by decide)
theorem cnt_wf :∀(x:Nd) (H:Nat),H≤1000→0≤cnt x (H:Int)→wf H x=true
 | .zero,H,hH,h=>absurd h (by rw [cnt]; decide)
 | .num n,0,hH,h=>absurd (cond_nn h).1 (by simp)
 | .ref s ix,0,hH,h=>absurd (cond_nn h).1 (by simp)
 | .bin o a b,0,hH,h=>absurd (cond_nn h).1 (by simp)
 | .neg a,0,hH,h=>absurd (cond_nn h).1 (by simp)
 | .sum s a,0,hH,h=>absurd (cond_nn h).1 (by simp)
 | .num n,H+1,hH,h=>by
  have h:=(cond_nn h).1
  rw [Bool.and_eq_true] at h
  exact h.2
 | .ref s ix,H+1,hH,h=>by
  have h:=(cond_nn h).1
  rw [Bool.and_eq_true] at h
  exact h.2
 | .bin o a b,H+1,hH,h=>by
  obtain ⟨h1,h2⟩:=cond_nn h
  obtain ⟨h3,h4⟩:=addC_2 h2
  rw [pred64 (by omega)] at h3 h4
  rw [Bool.and_eq_true] at h1
  rw [wf,cnt_wf a H (by omega) h3,cnt_wf b H (by omega) h4,h1.2]
  rfl
 | .neg a,H+1,hH,h=>by
  obtain ⟨h1,h2⟩:=cond_nn h
  have h3:=addC_1 h2
  rw [pred64 (by omega)] at h3
  exact cnt_wf a H (by omega) h3
 | .sum s a,H+1,hH,h=>by
  obtain ⟨h1,h2⟩:=cond_nn h
  have h3:=addC_1 h2
  rw [pred64 (by omega)] at h3
  rw [Bool.and_eq_true] at h1
  rw [wf,cnt_wf a H (by omega) h3,h1.2]
  rfl
theorem may_wf{x:Nd}(h:mayN x=true) :wf 16 x=true:=by
 unfold mayN at h
 rw [Bool.and_eq_true] at h
 have:=of_decide_eq_true h.1
 exact cnt_wf x 16 (by omega) (show 0≤cnt x 16 by omega)
def sgn(o:Int) :ByteArray:=bif decide (o=3) then ⟨#[43]⟩ else bif decide (o=4) then ⟨#[45]⟩ else bif decide (o=5) then ⟨#[42]⟩ else ByteArray.empty
abbrev mapP :List (T×T):=[(.int .i64 3, .str ⟨#[43]⟩),(.int .i64 4, .str ⟨#[45]⟩),(.int .i64 5, .str ⟨#[42]⟩)]
theorem put_p{R:Type}(K:List (T×T)→Option R) :(putC [] (.int .i64 3) (.str ⟨#[43]⟩) fun a=>putC a (.int .i64 4) (.str ⟨#[45]⟩) fun b=>putC b (.int .i64 5) (.str ⟨#[42]⟩) K)=K mapP:=rfl
theorem keyT_i(a b:Int) :keyT (.int .i64 a) (.int .i64 b)=some (decide (a=b)):=rfl
theorem lkP{R:Type}(o:Int)(K:ByteArray→Option R) :(lkT mapP (.int .i64 o) (.str ByteArray.empty) fun a p=>asS a K)=K (sgn o):=by
 unfold lkT mapP sgn
 rw [lookT,keyT_i]
 cases decide (o=3) with
 | true=>exact asS_str _ _
 | false=>
  dsimp only
  rw [lookT,keyT_i]
  cases decide (o=4) with
  | true=>exact asS_str _ _
  | false=>
   dsimp only
   rw [lookT,keyT_i]
   cases decide (o=5) with
   | true=>exact asS_str _ _
   | false=>exact asS_str _ _
def pNode :Nd→List T
 | .zero=>[]
 | .num n=>[dgT n]
 | .ref s ix=>wdT s::pList (ix.map wdT)
 | .neg a=>sgT ⟨#[45]⟩::pNode a
 | .sum s a=>wdT ⟨#[115,117,109]⟩::sgT ⟨#[40]⟩::wdT s::sgT ⟨#[44]⟩::(pNode a++[sgT ⟨#[41]⟩])
 | .bin o a b=>sgT ⟨#[40]⟩::(pNode a++sgT (sgn o)::(pNode b++[sgT ⟨#[41]⟩]))
theorem pNode_len :∀(H:Nat) (x:Nd),wf H x=true→(pNode x).length+16≤16*2^H
 | 0,x,h=>by cases h
 | H+1,x,h=>by
  have hp:2^(H+1)=2*2^H:=by rw [Nat.pow_succ]; omega
  have h1:1≤2^H:=Nat.one_le_two_pow
  cases x with
  | zero=>cases h
  | num n=>rw [pNode,List.length_singleton]; omega
  | ref s ix=>
   rw [wf,Bool.and_eq_true] at h
   have hi:=h.2
   unfold indexed at hi
   rw [Bool.and_eq_true] at hi
   have h4:=of_decide_eq_true hi.1
   have:=pList_len (ix.map wdT)
   rw [List.length_map] at this
   rw [pNode,List.length_cons]
   omega
  | bin o a b=>
   rw [wf,Bool.and_eq_true,Bool.and_eq_true] at h
   have ha:=pNode_len H a h.2.1
   have hb:=pNode_len H b h.2.2
   rw [pNode,List.length_cons,List.length_append,List.length_cons,List.length_append,List.length_singleton]
   omega
  | neg a=>
   have ha:=pNode_len H a h
   rw [pNode,List.length_cons]
   omega
  | sum s a=>
   rw [wf,Bool.and_eq_true] at h
   have ha:=pNode_len H a h.2
   rw [pNode,List.length_cons,List.length_cons,List.length_cons,List.length_cons,List.length_append,List.length_singleton]
   omega
theorem app1{A:Type}(l:List A)(x:A) :(l++[x]).length=l.length+1:=by rw [List.length_append]; rfl
theorem fin_pen(l:List T){m:List T}(h:l=m) :(some ((V.tup [],⟨[(0, .var [.buf 500]),(500, .arr true 3 true l)],[500,501]⟩)):Option (V×St))=some (.tup [],penO m):=by rw [h]
theorem get0{R:Type}(a:T)(l:List T)(K:T→Option R) :(needC (decide (0≤0)) fun _=>getT (a::l) ((0:Int)).toNat K)=K a:=rfl
theorem get1{R:Type}(a b:T)(l:List T)(K:T→Option R) :(needC (decide (0≤1)) fun _=>getT (a::b::l) ((1:Int)).toNat K)=K b:=rfl
theorem node45 :∀(x:Nd) (H:Nat),wf H x=true→∀(z:Bool) (out:List T),out.length+(pNode x).length≤900000000→vr 45 0 [.ptr 0 0 0, .t (ndT x)] (penI z out)=some (.tup [],penO (out++pNode x))
 | x,0,h,z,out,ho=>by cases h
 | .zero,H+1,h,z,out,ho=>by cases h
 | .num n,H+1,h,z,out,ho=>by
  rw [wf,Bool.and_eq_true] at h
  have h1:=of_decide_eq_true h.1
  have h2:=of_decide_eq_true h.2
  rw [ndT,eq45,R45,put_p,show decide ((1:Int)=1)=true from rfl,ct,pen_call (digits56 n (by omega) (by omega) z out (by omega))]
  exact fin_pen _ rfl
 | .ref s ix,H+1,h,z,out,ho=>by
  rw [wf,Bool.and_eq_true] at h
  have hi:=h.2
  unfold indexed at hi
  rw [Bool.and_eq_true] at hi
  have h4:=of_decide_eq_true hi.1
  have:=app1 out (wdT s)
  rw [pNode,List.length_cons] at ho
  rw [ndT,eq45,R45,put_p,show decide ((2:Int)=1)=false from rfl,cf,show decide ((2:Int)=2)=true from rfl,ct,pen_call (word54 s z out (by omega)),pen_call (list58 _ true ix _ (by omega) (by omega))]
  exact fin_pen _ (by rw [List.append_assoc]; rfl)
 | .neg a,H+1,h,z,out,ho=>by
  have:=app1 out (sgT ⟨#[45]⟩)
  rw [pNode,List.length_cons] at ho
  rw [ndT,eq45,R45,put_p,show decide ((6:Int)=1)=false from rfl,cf,show decide ((6:Int)=2)=false from rfl,cf,show decide ((6:Int)=6)=true from rfl,ct,pen_call (sign57 ⟨#[45]⟩ z out (by omega)),get0,D_nd,←ndT_eq,pen_call (node45 a H h true _ (by omega))]
  exact fin_pen _ (by rw [List.append_assoc]; rfl)
 | .sum s a,H+1,h,z,out,ho=>by
  rw [wf,Bool.and_eq_true] at h
  rw [pNode,List.length_cons,List.length_cons,List.length_cons,List.length_cons,List.length_append,List.length_singleton] at ho
  have e1:=app1 out (wdT ⟨#[115,117,109]⟩)
  have e2:=app1 (out++[wdT ⟨#[115,117,109]⟩]) (sgT ⟨#[40]⟩)
  have e3:=app1 (out++[wdT ⟨#[115,117,109]⟩]++[sgT ⟨#[40]⟩]) (wdT s)
  have e4:=app1 (out++[wdT ⟨#[115,117,109]⟩]++[sgT ⟨#[40]⟩]++[wdT s]) (sgT ⟨#[44]⟩)
  have e5:(out++[wdT ⟨#[115,117,109]⟩]++[sgT ⟨#[40]⟩]++[wdT s]++[sgT ⟨#[44]⟩]++pNode a).length=out.length+4+(pNode a).length:=by rw [List.length_append]; omega
  rw [ndT,eq45,R45,put_p,show decide ((7:Int)=1)=false from rfl,cf,show decide ((7:Int)=2)=false from rfl,cf,show decide ((7:Int)=6)=false from rfl,cf,show decide ((7:Int)=7)=true from rfl,ct,pen_call (word54 ⟨#[115,117,109]⟩ z out (by omega)),pen_call (sign57 ⟨#[40]⟩ true _ (by omega)),pen_call (word54 s true _ (by omega)),pen_call (sign57 ⟨#[44]⟩ true _ (by omega)),get0,D_nd,←ndT_eq,pen_call (node45 a H h.2 true _ (by omega)),pen_call (sign57 ⟨#[41]⟩ true _ (by omega))]
  exact fin_pen _ (by rw [pNode]; simp only [List.append_assoc,List.cons_append,List.nil_append])
 | .bin o a b,H+1,h,z,out,ho=>by
  rw [wf,Bool.and_eq_true,Bool.and_eq_true] at h
  have hk:=of_decide_eq_true h.1
  have n1:o ≠1:=fun e=>by subst e; exact absurd hk (by decide)
  have n2:o ≠2:=fun e=>by subst e; exact absurd hk (by decide)
  have n6:o ≠6:=fun e=>by subst e; exact absurd hk (by decide)
  have n7:o ≠7:=fun e=>by subst e; exact absurd hk (by decide)
  rw [pNode,List.length_cons,List.length_append,List.length_cons,List.length_append,List.length_singleton] at ho
  have e1:=app1 out (sgT ⟨#[40]⟩)
  have e2:(out++[sgT ⟨#[40]⟩]++pNode a).length=out.length+1+(pNode a).length:=by rw [List.length_append]; omega
  have e3:=app1 (out++[sgT ⟨#[40]⟩]++pNode a) (sgT (sgn o))
  have e4:(out++[sgT ⟨#[40]⟩]++pNode a++[sgT (sgn o)]++pNode b).length=out.length+2+(pNode a).length+(pNode b).length:=by rw [List.length_append]; omega
  rw [ndT,eq45,R45,put_p,decide_eq_false n1,cf,decide_eq_false n2,cf,decide_eq_false n6,cf,decide_eq_false n7,cf,pen_call (sign57 ⟨#[40]⟩ z out (by omega)),get0,D_nd,←ndT_eq,pen_call (node45 a H h.2.1 true _ (by omega)),lkP,pen_call (sign57 (sgn o) true _ (by omega)),get1,D_nd,←ndT_eq,pen_call (node45 b H h.2.2 true _ (by omega)),pen_call (sign57 ⟨#[41]⟩ true _ (by omega))]
  exact fin_pen _ (by rw [pNode]; simp only [List.append_assoc,List.cons_append,List.nil_append])
end Go.Proofs.Ytpfploolkmcalaa.VM
end
section
namespace Go.Proofs.Ytpfploolkmcalaa.VM
set_option linter.unusedSectionVars false
set_option linter.unusedVariables false
open Go AM
set_option maxRecDepth 100000
def pDec(d:Dec) :List T:=wdT tens::wdT d.s::(pList (d.sh.map dgT)++sgT ⟨#[58]⟩::wdT d.f::(bif decide (0<d.k) then [dgT d.k] else []))
def pStm(x:Stm) :List T:=wdT x.s::(pList (x.ix.map wdT)++sgT ⟨#[61]⟩::pNode x.e)
def nextL(out:List T) :List T:=bif out.isEmpty then [] else out++[lineT]
def penAll :List (List T)→List T→List T
 | [],out=>out
 | l::r,out=>penAll r (nextL out++l)
theorem line_out(z:Bool)(out:List T)(h:out.length≤900000000) :
  vr 53 0 [.ptr 0 0 0] (penI z out)=(bif out.isEmpty then some (.tup [],⟨[(0, .var [.buf 1]),(1, .arr true 3 z [])],[500,501]⟩) else some (.tup [],penO (out++[lineT]))):=by
 rw [eq53,R53]
 cases out with
 | nil=>rfl
 | cons x r=>
  rw [decide_eq_true (by rw [List.length_cons]; omega),ct,needC_true (need32 (by omega)),bOT]
  rfl
theorem after_line{z:Bool}{out:List T}(h:out.length≤900000000)(K K2:Bool→List T→Option Res)(hK:∀z',K z' (nextL out)=K2 z' (nextL out)) :
  (callK (vr 53 0 [.ptr 0 0 0] (penI z out)) fun a h=>
   bif fitsH (.tup []) [(0, .var [.buf 500]),(500, .arr 3)] a h then
    asTup a fun i=>endV i <| consB 0 h fun i j=>asVar i fun k=>consV k fun i l=>isBuf 500 i <| endV l <| consB 500 j fun i k=>asArr 3 i fun j l=>endB k <| K j l
   else
    asTup a fun i=>endV i <| consB 0 h fun a i=>asVar a fun h=>consV h fun a j=>isBuf 1 a <| endV j <| consB 1 i fun a h=>asArr 3 a fun i j=>endB h <| K2 i j)=K2 (!out.isEmpty || z) (nextL out):=by
 rw [line_out z out h]
 unfold nextL at hK ⊢
 cases out with
 | nil=>rfl
 | cons x r=>
  show (callK (some (V.tup [],penO (x::r++[lineT]))) _)=_
  rw [callK_some,show fitsH (.tup []) [(0, .var [.buf 500]),(500, .arr 3)] (V.tup []) (penO (x::r++[lineT])).blks=true from rfl,ct,asTup_tup,endV_nil,consB_cons,asVar_var,consV_cons,isBuf_buf,endV_nil,consB_cons,asArr_arr,endB_nil]
  exact hK true
theorem len_next(out:List T) :(nextL out).length≤out.length+1:=by
 unfold nextL
 cases out with
 | nil=>exact Nat.zero_le _
 | cons x r=>rw [show (x::r).isEmpty=false from rfl,cf,app1]; exact Nat.le_refl _
theorem len_pl(out ls:List T) :(out++pList ls).length≤out.length+2*ls.length+2:=by
 have:=pList_len ls
 rw [List.length_append]; omega
theorem big_no{n:Int}(h:big n=false) :0≤n∧n<1000000000000000000:=by
 unfold big at h
 rw [Bool.or_eq_false_iff] at h
 have h1:=of_decide_eq_false h.1
 have h2:=of_decide_eq_false h.2
 omega
theorem dec_parts{d:Dec}(h:decOk d=true) :isName d.s=true∧d.sh.length≤4∧(∀n∈d.sh,0≤n∧n<1000000000000000000)∧(0≤d.k∧d.k<1000000000000000000)∧isWord d.f.data.toList=true:=by
 unfold decOk at h
 rw [Bool.and_eq_true,Bool.and_eq_true,Bool.and_eq_true,Bool.and_eq_true] at h
 obtain ⟨h1,h2,h3,h4,h5⟩:=h
 refine ⟨h1,of_decide_eq_true h2,fun n hn=>big_no ?_,big_no ?_,h5⟩
 ·unfold bigs at h3
  have h3:d.sh.any big=false:=by revert h3; cases d.sh.any big <;>simp
  rw [List.any_eq_false] at h3
  have:=h3 n hn
  revert this
  cases big n <;>simp
 ·revert h4
  cases big d.k <;>simp
theorem stm_parts{x:Stm}(h:stmOk x=true) :isName x.s=true∧x.ix.length≤4∧(∀s∈x.ix,isName s=true)∧wf 16 x.e=true:=by
 unfold stmOk indexed at h
 rw [Bool.and_eq_true,Bool.and_eq_true,Bool.and_eq_true] at h
 obtain ⟨h1,⟨h2,h3⟩,h4⟩:=h
 refine ⟨h1,of_decide_eq_true h2,fun s hs=> ?_,may_wf h4⟩
 have h3:(x.ix.any fun s=> !isName s)=false:=by revert h3; cases (x.ix.any fun s=> !isName s) <;>simp
 rw [List.any_eq_false] at h3
 have:=h3 s hs
 revert this
 cases isName s <;>simp
theorem l25_6(z z2 z3 z4:Bool)(D:List Dec)(D2 S2:List T)(hb:D.length≤32)(hD:∀d∈D,decOk d=true) :∀(m i:Nat) (zo:Bool) (out:List T),m+i=D.length→out.length≤2000000*i→
  ∃zo',L25_6 z (D.map deT) (D.length:Int) (i:Int) z2 D2 z3 S2 zo out=L25_18 z3 S2 (S2.length:Int) 0 zo' (penAll ((D.drop i).map pDec) out)∧(penAll ((D.drop i).map pDec) out).length≤2000000*D.length
 | 0,i,zo,out,h,ho=>by
  refine ⟨zo, ?_, ?_⟩
  ·rw [L25_6_eq,RL25_6,decide_eq_false (by omega),cf,List.drop_eq_nil_of_le (by omega)]
   rfl
  ·rw [List.drop_eq_nil_of_le (by omega)]
   show out.length≤_
   have:i=D.length:=by omega
   rw [←this]; exact ho
 | m+1,i,zo,out,h,ho=>by
  have hi:i<D.length:=by omega
  obtain ⟨p1,p2,p3,p4,p5⟩:=dec_parts (hD _ (List.getElem_mem hi))
  have hn:=len_next out
  have a1:=app1 (nextL out) (wdT tens)
  have a2:=app1 (nextL out++[wdT tens]) (wdT D[i].s)
  have a3:=len_pl (nextL out++[wdT tens]++[wdT D[i].s]) (D[i].sh.map dgT)
  rw [List.length_map] at a3
  have a4:=app1 (nextL out++[wdT tens]++[wdT D[i].s]++pList (D[i].sh.map dgT)) (sgT ⟨#[58]⟩)
  have a5:=app1 (nextL out++[wdT tens]++[wdT D[i].s]++pList (D[i].sh.map dgT)++[sgT ⟨#[58]⟩]) (wdT D[i].f)
  have a6:=app1 (nextL out++[wdT tens]++[wdT D[i].s]++pList (D[i].sh.map dgT)++[sgT ⟨#[58]⟩]++[wdT D[i].f]) (dgT D[i].k)
  have hp:nextL out++pDec D[i]=bif decide (0<D[i].k) then nextL out++[wdT tens]++[wdT D[i].s]++pList (D[i].sh.map dgT)++[sgT ⟨#[58]⟩]++[wdT D[i].f]++[dgT D[i].k] else nextL out++[wdT tens]++[wdT D[i].s]++pList (D[i].sh.map dgT)++[sgT ⟨#[58]⟩]++[wdT D[i].f]:=by
   unfold pDec
   cases decide (0<D[i].k) <;>simp only [cond_true,cond_false,List.append_assoc,List.cons_append,List.nil_append]
  have hlen:(nextL out++pDec D[i]).length≤2000000*(i+1):=by
   rw [hp]
   cases decide (0<D[i].k) with
   | true=>rw [ct]; omega
   | false=>rw [cf]; omega
  obtain ⟨zo',e,el⟩:=l25_6 z z2 z3 z4 D D2 S2 hb hD m (i+1) true (nextL out++pDec D[i]) (by omega) hlen
  refine ⟨zo', ?_,by rw [List.drop_eq_getElem_cons hi]; exact el⟩
  have body:∀z',(callK (vr 54 0 [.ptr 0 0 0, .t (.str tens)] (penI z' (nextL out))) fun i_1 k=>asTup i_1 fun j=>endV j <| consB 0 k fun i_1 j=>asVar i_1 fun k=>consV k fun i_1 l=>isBuf 500 i_1 <| endV l <| consB 500 j fun i_1 k=>asArr 3 i_1 fun j l=>endB k <| callK (vr 54 0 [.ptr 0 0 0, .t (.str D[i].s)] (penI j l)) fun i_1 k=>asTup i_1 fun j=>endV j <| consB 0 k fun i_1 j=>asVar i_1 fun k=>consV k fun i_1 l=>isBuf 500 i_1 <| endV l <| consB 500 j fun i_1 k=>
    asArr 3 i_1 fun j l=>endB k <| callK (vr 55 0 [.ptr 0 0 0, .t (.list 1 (!D[i].sh.isEmpty) (ints D[i].sh)), .fn 56 [.ptr 0 0 0] []] (penI j l)) fun i_1 k=>asTup i_1 fun j=>endV j <| consB 0 k fun i_1 j=>asVar i_1 fun k=>consV k fun i_1 l=>isBuf 500 i_1 <| endV l <| consB 500 j fun i_1 k=>asArr 3 i_1 fun j l=>endB k <| callK (vr 57 0 [.ptr 0 0 0, .t (.str ⟨#[58]⟩)] (penI j l)) fun i_1 k=>asTup i_1 fun j=>endV j <| consB 0 k fun i_1 j=>asVar i_1 fun k=>consV k fun i_1 l=>isBuf 500 i_1 <| endV l <| consB 500 j fun i_1 k=>asArr 3 i_1 fun j l=>endB k <| callK (vr 54 0 [.ptr 0 0 0, .t (.str D[i].f)] (penI j l)) fun i_1 k=>asTup i_1 fun j=>endV j <|
    consB 0 k fun i_1 j=>asVar i_1 fun k=>consV k fun i_1 l=>isBuf 500 i_1 <| endV l <| consB 500 j fun i_1 k=>asArr 3 i_1 fun j l=>endB k <|
    (bif (decide (0<D[i].k)) then
     callK (vr 56 0 [.ptr 0 0 0, .t (.int .i64 D[i].k)] (penI j l)) fun i_1 k=>asTup i_1 fun m=>endV m <| consB 0 k fun i_1 m=>asVar i_1 fun k=>consV k fun i_1 n=>isBuf 500 i_1 <| endV n <| consB 500 m fun i_1 k=>asArr 3 i_1 fun m n=>endB k <| L25_6 z (D.map deT) (D.length:Int) ((i+1:Nat):Int) z2 D2 z3 S2 m n
    else
     L25_6 z (D.map deT) (D.length:Int) ((i+1:Nat):Int) z2 D2 z3 S2 j l))=L25_6 z (D.map deT) (D.length:Int) ((i+1:Nat):Int) z2 D2 z3 S2 true (nextL out++pDec D[i]):=fun z'=>by
   rw [pen_call (word54 tens z' _ (by omega)),pen_call (word54 D[i].s true _ (by omega)),pen_call (list55 _ true D[i].sh _ (by omega) (fun n hn=>by have:=p3 n hn; omega) (by omega)),pen_call (sign57 ⟨#[58]⟩ true _ (by omega)),pen_call (word54 D[i].f true _ (by omega)),hp]
   cases hk:decide (0<D[i].k) with
   | true=>rw [ct,ct,pen_call (digits56 D[i].k (by omega) (by omega) true _ (by omega))]
   | false=>rw [cf,cf]
  rw [L25_6_eq,RL25_6,decide_eq_true (by omega),ct,needC_true (decide_eq_true (by omega)),Int.toNat_natCast,getT_map _ hi,dec_out,nat64 (by omega),List.drop_eq_getElem_cons hi]
  refine (after_line (by omega) _ _ (fun z'=>rfl)).trans ?_
  exact (body _).trans e
theorem l25_18(z:Bool)(S:List Stm)(hb:S.length≤32)(hS:∀x∈S,stmOk x=true) :∀(m i:Nat) (zo:Bool) (out:List T),m+i=S.length→out.length≤2000000*(32+i)→
  ∃zo',L25_18 z (S.map smT) (S.length:Int) (i:Int) zo out=(callK (vr 46 0 [.t (.list 3 zo' (penAll ((S.drop i).map pStm) out))] e0) fun a b=>asTup a fun c=>consV c fun a d=>asT a fun c=>asS c fun a=>consV d fun c f=>asT c fun d=>asI .i64 d fun c=>endV f <| endB b <| some ((.tup [.t (.str a), .t (.int .i64 c)]),e0))∧(penAll ((S.drop i).map pStm) out).length≤2000000*64
 | 0,i,zo,out,h,ho=>by
  refine ⟨zo, ?_, ?_⟩
  ·rw [L25_18_eq,RL25_18,decide_eq_false (by omega),cf,List.drop_eq_nil_of_le (by omega)]
   rfl
  ·rw [List.drop_eq_nil_of_le (by omega)]
   show out.length≤_
   omega
 | m+1,i,zo,out,h,ho=>by
  have hi:i<S.length:=by omega
  obtain ⟨p1,p2,p3,p4⟩:=stm_parts (hS _ (List.getElem_mem hi))
  have hpn:=pNode_len 16 _ p4
  have hn:=len_next out
  have a1:=app1 (nextL out) (wdT S[i].s)
  have a2:=len_pl (nextL out++[wdT S[i].s]) (S[i].ix.map wdT)
  rw [List.length_map] at a2
  have a3:=app1 (nextL out++[wdT S[i].s]++pList (S[i].ix.map wdT)) (sgT ⟨#[61]⟩)
  have a4:(nextL out++[wdT S[i].s]++pList (S[i].ix.map wdT)++[sgT ⟨#[61]⟩]++pNode S[i].e).length=(nextL out++[wdT S[i].s]++pList (S[i].ix.map wdT)++[sgT ⟨#[61]⟩]).length+(pNode S[i].e).length:=List.length_append
  have hp:nextL out++pStm S[i]=nextL out++[wdT S[i].s]++pList (S[i].ix.map wdT)++[sgT ⟨#[61]⟩]++pNode S[i].e:=by
   unfold pStm; simp only [List.append_assoc,List.cons_append,List.nil_append]
  have h2:16*2^16=1048576:=by decide
  have hlen:(nextL out++pStm S[i]).length≤2000000*(32+(i+1)):=by rw [hp]; omega
  obtain ⟨zo',e,el⟩:=l25_18 z S hb hS m (i+1) true (nextL out++pStm S[i]) (by omega) hlen
  refine ⟨zo', ?_,by rw [List.drop_eq_getElem_cons hi]; exact el⟩
  have hg:getT (S.map smT) i=fun (K:T→Option Res)=>K (smT S[i]):=funext fun K=>getT_map _ hi K
  rw [L25_18_eq,RL25_18,decide_eq_true (by omega),ct,needC_true (decide_eq_true (by omega)),Int.toNat_natCast,hg]
  dsimp only
  unfold smT
  rw [D_sl1iisl1l5_at,nat64 (by omega),List.drop_eq_getElem_cons hi,←ndT_eq]
  refine (after_line (by omega) _ _ (fun z'=>rfl)).trans ?_
  rw [pen_call (word54 S[i].s _ _ (by omega)),pen_call (list58 _ true S[i].ix _ (by omega) (by omega)),pen_call (sign57 ⟨#[61]⟩ true _ (by omega)),pen_call (node45 S[i].e 16 p4 true _ (by omega)),←hp]
  exact e
end Go.Proofs.Ytpfploolkmcalaa.VM
end
section
namespace Go.Proofs.Ytpfploolkmcalaa.VM
set_option linter.unusedSectionVars false
set_option linter.unusedVariables false
open Go AM
set_option maxRecDepth 100000
def GN(t:T) :Prop:=∃s k v,t=tokT s k v∧tok s.data.toList=some (k,v)
theorem word_tok{l:List UInt8}(h:isWord l=true) :tok l=some (1,0):=by
 cases l with
 | nil=>cases h
 | cons b t=>
  unfold tok
  rw [number_no (isL_isD (word_first h)),h]
  rfl
theorem tok_len{l:List UInt8}{k v:Int}(h:tok l=some (k,v)) :l.length≤18:=by
 unfold tok at h
 cases hn:number l with
 | some n=>
  cases l with
  | nil=>exact Nat.zero_le _
  | cons b t=>
   unfold number at hn
   dsimp only at hn
   cases hd:decide (18<(b::t).length) with
   | true=>rw [hd] at hn; cases hn
   | false=>have:=of_decide_eq_false hd; omega
 | none=>
  rw [hn] at h
  dsimp only at h
  cases hw:isWord l with
  | true=>
   cases l with
   | nil=>exact Nat.zero_le _
   | cons b t=>
    unfold isWord at hw
    dsimp only at hw
    rw [Bool.and_eq_true,Bool.and_eq_true] at hw
    have:=of_decide_eq_true hw.1.1
    omega
  | false=>
   rw [hw,cf] at h
   cases hs:isSign l with
   | true=>
    unfold isSign at hs
    split at hs
    ·exact Nat.le_add_left ..
    ·cases hs
   | false=>rw [hs] at h; cases h
theorem gn_word{s:ByteArray}(h:isWord s.data.toList=true) :GN (wdT s):=⟨s,1,0,rfl,word_tok h⟩
theorem name_word{s:ByteArray}(h:isName s=true) :isWord s.data.toList=true:=by
 unfold isName at h
 rw [Bool.and_eq_true] at h
 exact h.1
theorem gn_name{s:ByteArray}(h:isName s=true) :GN (wdT s):=gn_word (name_word h)
theorem digL_nat{n:Int}(h:0≤n) :digL n=digs n.toNat:=by
 unfold digL
 rw [decide_eq_false (by omega),cf,List.nil_append]
 congr 1
 omega
theorem gn_dig{n:Int}(h:0≤n)(h2:n<1000000000000000000) :GN (dgT n):=by
 refine ⟨_,2,n,rfl, ?_⟩
 show tok (digL n)=_
 rw [digL_nat h,tok_digs,if_pos (by omega)]
 congr 2
 omega
theorem gn_sign{s:ByteArray}(h:tok s.data.toList=some (3,0)) :GN (sgT s):=⟨s,3,0,rfl,h⟩
def AllG(l:List T) :Prop:=∀t∈l,GN t
theorem AllG.nil :AllG []:=fun t h=>by cases h
theorem AllG.cons{t:T}{l:List T}(h:GN t)(hl:AllG l) :AllG (t::l):=fun y hy=>by
 rcases List.mem_cons.1 hy with rfl | hy
 ·exact h
 ·exact hl y hy
theorem AllG.app{a b:List T}(h:AllG a)(hl:AllG b) :AllG (a++b):=fun y hy=>by
 rcases List.mem_append.1 hy with hy | hy
 ·exact h y hy
 ·exact hl y hy
theorem restT_g :∀{l:List T},AllG l→AllG (restT l)
 | [],h=> .nil
 | x::l,h=> .cons (gn_sign rfl) (.cons (h x (List.mem_cons_self ..)) (restT_g fun y hy=>h y (List.mem_cons_of_mem _ hy)))
theorem pList_g{l:List T}(h:AllG l) :AllG (pList l):=by
 refine .cons (gn_sign rfl) (.app ?_ (.cons (gn_sign rfl) .nil))
 cases l with
 | nil=>exact .nil
 | cons x r=>exact .cons (h x (List.mem_cons_self ..)) (restT_g fun y hy=>h y (List.mem_cons_of_mem _ hy))
theorem names_g{ix:List ByteArray}(h:∀s∈ix,isName s=true) :AllG (ix.map wdT):=fun y hy=>by
 obtain ⟨s,hs,rfl⟩:=List.mem_map.1 hy
 exact gn_name (h s hs)
theorem sizes_g{l:List Int}(h:∀n∈l,0≤n∧n<1000000000000000000) :AllG (l.map dgT):=fun y hy=>by
 obtain ⟨s,hs,rfl⟩:=List.mem_map.1 hy
 exact gn_dig (h s hs).1 (h s hs).2
theorem op_cases{o:Int}(h:decide (kidsN o=2)=true) :o=3∨o=4∨o=5:=by
 have h:=of_decide_eq_true h
 unfold kidsN at h
 by_cases h1:o=1
 ·subst h1; exact absurd h (by decide)
 ·by_cases h2:o=2
  ·subst h2; exact absurd h (by decide)
  ·by_cases h6:o=6
   ·subst h6; exact absurd h (by decide)
   ·by_cases h7:o=7
    ·subst h7; exact absurd h (by decide)
    ·by_cases h3:o=3
     ·exact .inl h3
     ·by_cases h4:o=4
      ·exact .inr (.inl h4)
      ·by_cases h5:o=5
       ·exact .inr (.inr h5)
       ·rw [decide_eq_false h1,cf,decide_eq_false h2,cf,decide_eq_false h6,cf,decide_eq_false h7,cf,decide_eq_false h3,cf,decide_eq_false h4,cf,decide_eq_false h5,cf] at h
        exact absurd h (by decide)
theorem idx_names{ix:List ByteArray}(h:indexed ix=true) :∀s∈ix,isName s=true:=fun s hs=>by
 unfold indexed at h
 rw [Bool.and_eq_true] at h
 have h3:(ix.any fun s=> !isName s)=false:=by have:=h.2; revert this; cases (ix.any fun s=> !isName s) <;>simp
 rw [List.any_eq_false] at h3
 have:=h3 s hs
 revert this
 cases isName s <;>simp
theorem node_g :∀(H:Nat) (x:Nd),wf H x=true→AllG (pNode x)
 | 0,x,h=>by cases h
 | H+1, .zero,h=>by cases h
 | H+1, .num n,h=>by
  rw [wf,Bool.and_eq_true] at h
  exact .cons (gn_dig (of_decide_eq_true h.1) (of_decide_eq_true h.2)) .nil
 | H+1, .ref s ix,h=>by
  rw [wf,Bool.and_eq_true] at h
  exact .cons (gn_name h.1) (pList_g (names_g (idx_names h.2)))
 | H+1, .neg a,h=> .cons (gn_sign rfl) (node_g H a h)
 | H+1, .sum s a,h=>by
  rw [wf,Bool.and_eq_true] at h
  exact .cons (gn_word rfl) (.cons (gn_sign rfl) (.cons (gn_name h.1) (.cons (gn_sign rfl) (.app (node_g H a h.2) (.cons (gn_sign rfl) .nil)))))
 | H+1, .bin o a b,h=>by
  rw [wf,Bool.and_eq_true,Bool.and_eq_true] at h
  refine .cons (gn_sign rfl) (.app (node_g H a h.2.1) (.cons ?_ (.app (node_g H b h.2.2) (.cons (gn_sign rfl) .nil))))
  rcases op_cases h.1 with rfl | rfl | rfl <;>exact gn_sign rfl
theorem dec_g{d:Dec}(h:decOk d=true) :AllG (pDec d):=by
 obtain ⟨p1,p2,p3,p4,p5⟩:=dec_parts h
 refine .cons (gn_word rfl) (.cons (gn_name p1) (.app (pList_g (sizes_g p3)) (.cons (gn_sign rfl) (.cons (gn_word p5) ?_))))
 cases decide (0<d.k) with
 | true=>exact .cons (gn_dig p4.1 p4.2) .nil
 | false=>exact .nil
theorem stm_g{x:Stm}(h:stmOk x=true) :AllG (pStm x):=by
 obtain ⟨p1,p2,p3,p4⟩:=stm_parts h
 exact .cons (gn_name p1) (.app (pList_g (names_g p3)) (.cons (gn_sign rfl) (node_g 16 _ p4)))
/-! ### joined -/
theorem gn_tk{t:T}(h:GN t) :(tkOf t).2=0∧(tkOf t).1.1 ≠4∧(tkOf t).1.2.1.size≤18∧isLn t=false∧IsTok t:=by
 obtain ⟨s,k,v,rfl,ht⟩:=h
 have hk:=(tok_kinds ht).1
 refine ⟨?_,hk, ?_, ?_,s,k,v,rfl⟩
 ·show chkE (k,s,v)=0
  unfold chkE
  dsimp only
  rw [decide_eq_true (p:=tok s.data.toList=some (k,v)) ht,Bool.or_true]
  rfl
 ·show s.size≤18
  rw [←size_list]; exact tok_len ht
 ·show decide (k=4)=false
  exact decide_eq_false hk
theorem jline_g :∀(l:List T) (b:Bool),AllG l→l ≠[]→jline b (l.map tkOf)=some false
 | [],b,h,hn=>absurd rfl hn
 | x::l,b,h,hn=>by
  obtain ⟨h1,h2,_⟩:=gn_tk (h x (List.mem_cons_self ..))
  rw [List.map_cons,jline,if_pos ⟨h1,fun e=>h2 e.2⟩,decide_eq_false h2]
  cases l with
  | nil=>rfl
  | cons y r=>exact jline_g (y::r) false (fun z hz=>h z (List.mem_cons_of_mem _ hz)) (by simp)
def Wr(out:List T) :Prop:=(out=[]∨jline true (out.map tkOf)=some false)∧(∀t∈out,IsTok t∧(tkOf t).1.2.1.size≤18)
theorem wr_step{out l:List T}(h:Wr out)(hl:AllG l)(hn:l ≠[]) :Wr (nextL out++l):=by
 obtain ⟨h1,h2⟩:=h
 have hlt:∀t∈l,IsTok t∧(tkOf t).1.2.1.size≤18:=fun t ht=>by obtain ⟨_,_,a,_,b⟩:=gn_tk (hl t ht); exact ⟨b,a⟩
 cases out with
 | nil=>exact ⟨.inr (jline_g l true hl hn),hlt⟩
 | cons x r=>
  rcases h1 with h1 | h1
  ·cases h1
  ·refine ⟨.inr ?_,fun t ht=> ?_⟩
   ·show jline true (((x::r)++[lineT]++l).map tkOf)=some false
    rw [List.map_append,List.map_append,jline_app,jline_app,h1,Option.bind_some]
    show (jline false [tkOf lineT]).bind _=_
    rw [jline_line,Option.bind_some]
    exact jline_g l true hl hn
   ·have ht:t∈(x::r)++[lineT]++l:=ht
    rcases List.mem_append.1 ht with ht | ht
    ·rcases List.mem_append.1 ht with ht | ht
     ·exact h2 t ht
     ·rw [List.mem_singleton.1 ht]
      exact ⟨⟨ByteArray.empty,4,0,rfl⟩,Nat.zero_le _⟩
    ·exact hlt t ht
theorem wr_all :∀(ls:List (List T)) (out:List T),(∀l∈ls,AllG l∧l ≠[])→Wr out→Wr (penAll ls out)
 | [],out,h,hw=>hw
 | l::r,out,h,hw=>wr_all r _ (fun y hy=>h y (List.mem_cons_of_mem _ hy)) (wr_step hw (h l (List.mem_cons_self ..)).1 (h l (List.mem_cons_self ..)).2)
theorem wr_wt :∀{l:List T},(∀t∈l,IsTok t∧(tkOf t).1.2.1.size≤18)→wtJ (l.map tkOf)≤19*l.length
 | [],h=>Nat.le_refl _
 | x::l,h=>by
  have h1:=(h x (List.mem_cons_self ..)).2
  have h2:=wr_wt fun y hy=>h y (List.mem_cons_of_mem _ hy)
  have e:wtJ ((x::l).map tkOf)=(tkOf x).1.2.1.size+1+wtJ (l.map tkOf):=by simp [wtJ]
  rw [e,List.length_cons]
  omega
theorem wr_join{out:List T}(h:Wr out) :(joinE (out.map tkOf)).2=0∨(joinE (out.map tkOf)).2=2:=by
 obtain ⟨h1,_⟩:=h
 rcases h1 with rfl | h1
 ·left; rfl
 ·unfold joinE
  rw [h1]
  dsimp only
  rw [if_neg (by simp)]
  split
  ·exact .inr rfl
  ·exact .inl rfl
/-! ### lines again -/
def tailG :List (List T)→List T
 | []=>[]
 | l::r=>lineT::(l++tailG r)
theorem penAll_tail :∀(ls:List (List T)) (out:List T),out ≠[]→penAll ls out=out++tailG ls
 | [],out,h=>(List.append_nil _).symm
 | l::r,out,h=>by
  have e:nextL out=out++[lineT]:=by
   cases out with
   | nil=>exact absurd rfl h
   | cons x r=>rfl
  rw [penAll,e,penAll_tail r _ (by simp),tailG]
  simp only [List.append_assoc,List.cons_append,List.nil_append]
theorem splitL_tail :∀(r:List (List T)) (l:List T),(∀p∈r,AllG p)→AllG l→splitL (l++tailG r)=l::r
 | [],[],hr,hl=>rfl
 | p::r,[],hr,hl=>by
  have:=splitL_tail r p (fun y hy=>hr y (List.mem_cons_of_mem _ hy)) (hr p (List.mem_cons_self ..))
  rw [List.nil_append,tailG,splitL_cons,this]
  rfl
 | r,x::l,hr,hl=>by
  have:=splitL_tail r l hr fun y hy=>hl y (List.mem_cons_of_mem _ hy)
  rw [List.cons_append,splitL_cons,(gn_tk (hl x (List.mem_cons_self ..))).2.2.2.1,this]
  rfl
theorem lines_back(ls:List (List T))(h:∀l∈ls,AllG l∧l ≠[]) :linesOf (penAll ls [])=ls:=by
 cases ls with
 | nil=>rfl
 | cons l r=>
  obtain ⟨h1,h2⟩:=h l (List.mem_cons_self ..)
  have e:penAll (l::r) []=l++tailG r:=penAll_tail r l h2
  have hne:l++tailG r ≠[]:=by
   cases l with
   | nil=>exact absurd rfl h2
   | cons x t=>simp
  unfold linesOf
  rw [e,if_neg hne]
  exact splitL_tail r l (fun p hp=>(h p (List.mem_cons_of_mem _ hp)).1) h1
end Go.Proofs.Ytpfploolkmcalaa.VM
end
section
namespace Go.Proofs.Ytpfploolkmcalaa.VM
set_option linter.unusedSectionVars false
set_option linter.unusedVariables false
open Go AM
set_option maxRecDepth 100000
theorem atB_is{A:ByteArray}{k v:Int}{r:List T}(hk:k=3∨k=1) :atB A (tokT A k v::r) false=true:=by
 show (!false &&(decide (A=A) &&(decide (k=3) || decide (k=1))))=true
 rcases hk with rfl | rfl <;>simp
theorem atB_no{A s:ByteArray}{k v:Int}{r:List T}(h:s ≠A) :atB A (tokT s k v::r) false=false:=by
 show (!false &&(decide (s=A) &&(decide (k=3) || decide (k=1))))=false
 rw [decide_eq_false h]; rfl
theorem atB_num{A s:ByteArray}{v:Int}{r:List T} :atB A (tokT s 2 v::r) false=false:=by
 show (!false &&(decide (s=A) &&(decide ((2:Int)=3) || decide ((2:Int)=1))))=false
 rw [show (decide ((2:Int)=3) || decide ((2:Int)=1))=false from rfl,bAF]; rfl
theorem must_is{A:ByteArray}{k v:Int}{r:List T}(hk:k=3∨k=1) :mustR A (tokT A k v::r) false=(r,false):=by
 unfold mustR; rw [atB_is hk]; rfl
theorem name_ne{A s:ByteArray}(hA:isName A=false)(h:isName s=true) :s ≠A:=fun e=>by rw [e,hA] at h; cases h
theorem take_is{k:Int}{s:ByteArray}{v:Int}{r:List T} :takeR k (tokT s k v::r) false=(tokT s k v,r,false):=by
 unfold takeR
 rw [cf]
 show (bif decide (k=k) then _ else _)=_
 rw [decide_eq_true rfl]; rfl
theorem name_is{s:ByteArray}{r:List T}(h:isName s=true) :nameR (wdT s::r) false=(s,r,false):=by
 unfold nameR
 rw [take_is]
 show (s,r,bif isName s then false else true)=_
 rw [h]; rfl
theorem size_is{n:Int}{r:List T} :sizeR (dgT n::r) false=(n,r,false):=by
 unfold sizeR
 rw [take_is]
 rfl
theorem sg_ne{A B:ByteArray}{v w:Int}{r:List T}(h:B ≠A) :atB A (sgT B::r) false=false:=atB_no h
theorem loopN_is(r:List T) :∀(l:List ByteArray) (x:ByteArray) (n:Nat) (acc:List ByteArray),(∀s∈x::l,isName s=true)→l.length+1<n→
  loopN n true (wdT x::(restT (l.map wdT)++sgT ⟨#[93]⟩::r)) false acc=(acc++x::l,r,false)
 | [],x,n,acc,h,hn=>by
  obtain ⟨m,rfl⟩:∃m,n=m+2:=⟨n - 2,by have:([]:List ByteArray).length=0:=rfl; omega⟩
  have hr:restT (([]:List ByteArray).map wdT)++sgT ⟨#[93]⟩::r=sgT ⟨#[93]⟩::r:=rfl
  have h1:atB ⟨#[44]⟩ (sgT ⟨#[93]⟩::r) false=false:=atB_no (by decide)
  rw [hr,loopN,name_is (h x (List.mem_cons_self ..))]
  dsimp only
  rw [h1,cf,loopN,must_is (.inl rfl)]
  rfl
 | y::l,x,n,acc,h,hn=>by
  obtain ⟨m,rfl⟩:∃m,n=m+1:=⟨n - 1,by omega⟩
  have hr:restT ((y::l).map wdT)++sgT ⟨#[93]⟩::r=sgT ⟨#[44]⟩::wdT y::(restT (l.map wdT)++sgT ⟨#[93]⟩::r):=rfl
  have h1:atB ⟨#[44]⟩ (sgT ⟨#[44]⟩::wdT y::(restT (l.map wdT)++sgT ⟨#[93]⟩::r)) false=true:=atB_is (.inl rfl)
  have ih:=loopN_is r l y m (acc++[x]) (fun s hs=>h s (List.mem_cons_of_mem _ hs)) (by rw [List.length_cons] at hn; omega)
  rw [hr,loopN,name_is (h x (List.mem_cons_self ..))]
  dsimp only
  rw [h1,ct]
  show (bif true && !false then loopN m true (wdT y::(restT (l.map wdT)++sgT ⟨#[93]⟩::r)) false (acc++[x]) else _)=_
  rw [ih,List.append_assoc]
  rfl
theorem names_is(l:List ByteArray)(r:List T)(h:∀s∈l,isName s=true) :namesR (pList (l.map wdT)++r) false=(l,r,false):=by
 have e:pList (l.map wdT)++r=sgT ⟨#[91]⟩::(commas (l.map wdT)++sgT ⟨#[93]⟩::r):=by unfold pList; simp only [List.append_assoc,List.cons_append,List.nil_append]
 unfold namesR
 rw [e,must_is (.inl rfl)]
 dsimp only
 cases l with
 | nil=>
  have h1:atB ⟨#[93]⟩ (commas (([]:List ByteArray).map wdT)++sgT ⟨#[93]⟩::r) false=true:=atB_is (.inl rfl)
  rw [h1]; rfl
 | cons x l=>
  have e2:commas ((x::l).map wdT)++sgT ⟨#[93]⟩::r=wdT x::(restT (l.map wdT)++sgT ⟨#[93]⟩::r):=rfl
  rw [e2,atB_no (name_ne (A:=⟨#[93]⟩) (by decide) (h x (List.mem_cons_self ..))),cf,loopN_is r l x _ [] h (by
   have:=restT_len (l.map wdT)
   rw [List.length_map] at this
   rw [List.length_cons,List.length_append,List.length_cons]; omega)]
  rfl
theorem loopZ_is(r:List T) :∀(l:List Int) (x:Int) (n:Nat) (acc:List Int),l.length+1<n→
  loopZ n true (dgT x::(restT (l.map dgT)++sgT ⟨#[93]⟩::r)) false acc=(acc++x::l,r,false)
 | [],x,n,acc,hn=>by
  obtain ⟨m,rfl⟩:∃m,n=m+2:=⟨n - 2,by have:([]:List Int).length=0:=rfl; omega⟩
  have hr:restT (([]:List Int).map dgT)++sgT ⟨#[93]⟩::r=sgT ⟨#[93]⟩::r:=rfl
  have h1:atB ⟨#[44]⟩ (sgT ⟨#[93]⟩::r) false=false:=atB_no (by decide)
  rw [hr,loopZ,size_is]
  dsimp only
  rw [h1,cf,loopZ,must_is (.inl rfl)]
  rfl
 | y::l,x,n,acc,hn=>by
  obtain ⟨m,rfl⟩:∃m,n=m+1:=⟨n - 1,by omega⟩
  have hr:restT ((y::l).map dgT)++sgT ⟨#[93]⟩::r=sgT ⟨#[44]⟩::dgT y::(restT (l.map dgT)++sgT ⟨#[93]⟩::r):=rfl
  have h1:atB ⟨#[44]⟩ (sgT ⟨#[44]⟩::dgT y::(restT (l.map dgT)++sgT ⟨#[93]⟩::r)) false=true:=atB_is (.inl rfl)
  have ih:=loopZ_is r l y m (acc++[x]) (by rw [List.length_cons] at hn; omega)
  rw [hr,loopZ,size_is]
  dsimp only
  rw [h1,ct]
  show (bif true && !false then loopZ m true (dgT y::(restT (l.map dgT)++sgT ⟨#[93]⟩::r)) false (acc++[x]) else _)=_
  rw [ih,List.append_assoc]
  rfl
theorem sizes_is(l:List Int)(r:List T) :sizesR (pList (l.map dgT)++r) false=(l,r,false):=by
 have e:pList (l.map dgT)++r=sgT ⟨#[91]⟩::(commas (l.map dgT)++sgT ⟨#[93]⟩::r):=by unfold pList; simp only [List.append_assoc,List.cons_append,List.nil_append]
 unfold sizesR
 rw [e,must_is (.inl rfl)]
 dsimp only
 cases l with
 | nil=>
  have h1:atB ⟨#[93]⟩ (commas (([]:List Int).map dgT)++sgT ⟨#[93]⟩::r) false=true:=atB_is (.inl rfl)
  rw [h1]; rfl
 | cons x l=>
  have e2:commas ((x::l).map dgT)++sgT ⟨#[93]⟩::r=dgT x::(restT (l.map dgT)++sgT ⟨#[93]⟩::r):=rfl
  rw [e2,atB_num,cf,loopZ_is r l x _ [] (by
   have:=restT_len (l.map dgT)
   rw [List.length_map] at this
   rw [List.length_cons,List.length_append,List.length_cons]; omega)]
  rfl
/-! ### expressions -/
theorem binL_stop{p:PR}{sg:ByteArray→Int}{x:Nd}{l:List T}(h:sg (tkS (hdT l))=0) :∀m,binL p sg m x l false=(x,l,false)
 | 0=>rfl
 | m+1=>by rw [binL,cf,decide_eq_true h,ct]
theorem binL_go{p:PR}{sg:ByteArray→Int}{x y:Nd}{s:ByteArray}{l r:List T}(h:sg s ≠0)(hp:p l false=(y,r,false))(h2:sg (tkS (hdT r))=0)(m:Nat) :
  binL p sg (m+1) x (sgT s::l) false=(.bin (sg s) x y,r,false):=by
 rw [binL,cf]
 show (bif decide (sg s=0) then _ else bif !decide ((3:Int)=3) then _ else binL p sg m (.bin (sg s) x (p l false).1) (p l false).2.1 (p l false).2.2)=_
 rw [decide_eq_false h,cf,show decide ((3:Int)=3)=true from rfl,bNT,cf,hp]
 exact binL_stop h2 m
def FacOk(H:Nat) :Prop:=∀x,wf H x=true→∀n,3*H≤n→∀r,parts n 0 (pNode x++r) false=(x,r,false)
theorem term_ok{H:Nat}(hf:FacOk H){x:Nd}(hx:wf H x=true){n:Nat}(hn:3*H+1≤n){r:List T}(hr:opM (tkS (hdT r))=0) :parts n 1 (pNode x++r) false=(x,r,false):=by
 obtain ⟨m,rfl⟩:∃m,n=m+1:=⟨n - 1,by omega⟩
 rw [parts]
 unfold binR
 rw [hf x hx m (by omega)]
 exact binL_stop hr _
theorem expr_is{H:Nat}(hf:FacOk H){x:Nd}(hx:wf H x=true){n:Nat}(hn:3*H+2≤n){r:List T}(hr:opM (tkS (hdT r))=0)(hr2:opE (tkS (hdT r))=0) :parts n 2 (pNode x++r) false=(x,r,false):=by
 obtain ⟨m,rfl⟩:∃m,n=m+1:=⟨n - 1,by omega⟩
 rw [parts]
 unfold binR
 rw [term_ok hf hx (by omega) hr]
 exact binL_stop hr2 _
abbrev clT :T:=sgT ⟨#[41]⟩
theorem two_ok{H:Nat}(hf:FacOk H){a b:Nd}(ha:wf H a=true)(hb:wf H b=true){n:Nat}(hn:3*H+2≤n){o:Int}(ho:decide (kidsN o=2)=true)(r:List T) :parts n 2 (pNode a++sgT (sgn o)::(pNode b++clT::r)) false=(.bin o a b,clT::r,false):=by
 obtain ⟨m,rfl⟩:∃m,n=m+2:=⟨n - 2,by omega⟩
 have hM:opM (tkS (hdT (clT::r)))=0:=rfl
 have hE:opE (tkS (hdT (clT::r)))=0:=rfl
 rcases op_cases ho with rfl | rfl | rfl
 ·have h1:opM (tkS (hdT (sgT (sgn 3)::(pNode b++clT::r))))=0:=rfl
  rw [parts]
  unfold binR
  rw [term_ok hf ha (by omega) h1]
  exact binL_go (sg:=opE) (s:=sgn 3) (by decide) (term_ok hf hb (by omega) hM) hE _
 ·have h1:opM (tkS (hdT (sgT (sgn 4)::(pNode b++clT::r))))=0:=rfl
  rw [parts]
  unfold binR
  rw [term_ok hf ha (by omega) h1]
  exact binL_go (sg:=opE) (s:=sgn 4) (by decide) (term_ok hf hb (by omega) hM) hE _
 ·have e:parts (m+1) 1 (pNode a++sgT (sgn 5)::(pNode b++clT::r)) false=(.bin 5 a b,clT::r,false):=by
   rw [parts]
   unfold binR
   rw [hf a ha m (by omega)]
   exact binL_go (sg:=opM) (s:=sgn 5) (by decide) (hf b hb m (by omega) _) hM _
  rw [parts]
  unfold binR
  rw [e]
  exact binL_stop hE _
theorem fac_ok :∀H,FacOk H
 | 0,x,hx,n,hn,r=>by cases hx
 | H+1,x,hx,n,hn,r=>by
  obtain ⟨m,rfl⟩:∃m,n=m+1:=⟨n - 1,by omega⟩
  have ih:=fac_ok H
  have hM:∀r,opM (tkS (hdT (clT::r)))=0:=fun r=>rfl
  have hE:∀r,opE (tkS (hdT (clT::r)))=0:=fun r=>rfl
  rw [parts]
  unfold facR
  rw [cf]
  cases x with
  | zero=>cases hx
  | num v=>
   show (bif atB _ (dgT v::r) false then _ else _)=_
   rw [atB_num,cf,pNode,List.cons_append,List.nil_append,atB_num,cf,atB_num,cf,take_is]
   rfl
  | ref s ix=>
   rw [wf,Bool.and_eq_true] at hx
   rw [pNode,List.cons_append,atB_no (name_ne (A:=⟨#[45]⟩) (by decide) hx.1),cf,atB_no (name_ne (A:=⟨#[40]⟩) (by decide) hx.1),cf,atB_no (name_ne (A:=⟨#[115,117,109]⟩) (by decide) hx.1),cf,name_is hx.1]
   dsimp only
   rw [names_is ix r (idx_names hx.2)]
   rfl
  | neg a=>
   rw [pNode,List.cons_append,atB_is (.inl rfl),ct,List.tail_cons,ih a hx m (by omega)]
  | sum s a=>
   rw [wf,Bool.and_eq_true] at hx
   have e:pNode (.sum s a)++r=wdT ⟨#[115,117,109]⟩::sgT ⟨#[40]⟩::wdT s::sgT ⟨#[44]⟩::(pNode a++clT::r):=by rw [pNode]; simp only [List.append_assoc,List.cons_append,List.nil_append]
   rw [e,atB_no (s:=⟨#[115,117,109]⟩) (A:=⟨#[45]⟩) (by decide),cf,atB_no (s:=⟨#[115,117,109]⟩) (A:=⟨#[40]⟩) (by decide),cf,atB_is (.inr rfl),ct,List.tail_cons]
   unfold sumR
   dsimp only
   rw [must_is (.inl rfl)]
   dsimp only
   rw [name_is hx.1]
   dsimp only
   rw [must_is (.inl rfl)]
   dsimp only
   rw [expr_is ih hx.2 (by omega) (hM r) (hE r)]
   dsimp only
   rw [must_is (.inl rfl)]
  | bin o a b=>
   rw [wf,Bool.and_eq_true,Bool.and_eq_true] at hx
   have e:pNode (.bin o a b)++r=sgT ⟨#[40]⟩::(pNode a++sgT (sgn o)::(pNode b++clT::r)):=by rw [pNode]; simp only [List.append_assoc,List.cons_append,List.nil_append]
   rw [e,atB_no (s:=⟨#[40]⟩) (A:=⟨#[45]⟩) (by decide),cf,atB_is (.inl rfl),ct,List.tail_cons,two_ok ih hx.2.1 hx.2.2 (by omega) hx.1 r]
   dsimp only
   rw [must_is (.inl rfl)]
/-! ### lines -/
theorem exprR_is{x:Nd}(hx:wf 16 x=true) :exprR (pNode x) false=(x,[],false):=by
 have:=expr_is (fac_ok 16) hx (n:=40000) (by omega) (r:=[]) rfl rfl
 rw [List.append_nil] at this
 exact this
theorem stmt_is{x:Stm}(h:stmOk x=true) :stmtR (pStm x) false=(x,[],false):=by
 obtain ⟨p1,p2,p3,p4⟩:=stm_parts h
 unfold stmtR pStm
 dsimp only
 rw [name_is p1]
 dsimp only
 rw [names_is x.ix _ p3]
 dsimp only
 rw [must_is (.inl rfl)]
 dsimp only
 rw [exprR_is p4]
theorem decl_is{d:Dec}(h:decOk d=true) :declR (pDec d) false=(d,[],false):=by
 obtain ⟨p1,p2,p3,p4,p5⟩:=dec_parts h
 unfold declR pDec
 dsimp only
 rw [must_is (.inr rfl)]
 dsimp only
 rw [name_is p1]
 dsimp only
 rw [sizes_is]
 dsimp only
 rw [must_is (.inl rfl)]
 dsimp only
 rw [take_is]
 dsimp only
 cases hk:decide (0<d.k) with
 | true=>
  rw [ct,size_is]
  rfl
 | false=>
  have:=of_decide_eq_false hk
  have hz:d.k=0:=by omega
  show (({s:=d.s,sh:=d.sh,f:=d.f,k:=0}:Dec),([]:List T),false)=_
  rw [←hz]
theorem tens_stm{x:Stm}(h:stmOk x=true) :atB tens (pStm x) false=false:=by
 obtain ⟨p1,_⟩:=stm_parts h
 exact atB_no (name_ne (by decide) p1)
theorem tens_dec(d:Dec) :atB tens (pDec d) false=true:=atB_is (.inr rfl)
theorem chk_pre{D D2:List Dec}{S S2:List Stm}(h:chkP (D++D2) (S++S2)=true) :chkP D S=true:=by
 unfold chkP at h ⊢
 rw [Bool.and_eq_true,Bool.and_eq_true,Bool.and_eq_true,List.all_append,List.all_append,Bool.and_eq_true,Bool.and_eq_true,List.length_append,List.length_append] at h
 obtain ⟨h1,h2,⟨h3,_⟩,h4,_⟩:=h
 have h1:=of_decide_eq_true h1
 have h2:=of_decide_eq_true h2
 rw [decide_eq_true (p:=D.length≤32) (by omega),decide_eq_true (p:=S.length≤32) (by omega),h3,h4]
 rfl
theorem endP_ok{K:PP}{i:Int}{D:List Dec}{S:List Stm}(h:chkP D S=true) :endP K i [] false false D S=K:=by
 unfold endP
 rw [h]; rfl
theorem loop_stm :∀(S2:List Stm) (i:Nat) (D:List Dec) (S:List Stm),chkP D (S++S2)=true→loopP (S2.map pStm) i D S=(D,S++S2,((i+S2.length:Nat):Int),0)
 | [],i,D,S,h=>by rw [List.map_nil,loopP,List.append_nil]; rfl
 | x::S2,i,D,S,h=>by
  have e:S++x::S2=S++[x]++S2:=by simp
  have hx:stmOk x=true:=by
   unfold chkP at h
   rw [Bool.and_eq_true,Bool.and_eq_true,Bool.and_eq_true,List.all_append,Bool.and_eq_true,List.all_cons,Bool.and_eq_true] at h
   exact h.2.2.2.2.1
  rw [e] at h ⊢
  have h':chkP (D++[]) (S++[x]++S2)=true:=by rw [List.append_nil]; exact h
  rw [List.map_cons,loopP,tens_stm hx,cf,stmt_is hx]
  dsimp only
  rw [endP_ok (chk_pre h'),loop_stm S2 (i+1) D _ h,List.length_cons]
  congr 4
  omega
theorem loop_dec(S:List Stm) :∀(D2:List Dec) (i:Nat) (D:List Dec),chkP (D++D2) S=true→loopP (D2.map pDec++S.map pStm) i D []=(D++D2,S,((i+D2.length+S.length:Nat):Int),0)
 | [],i,D,h=>by
  rw [List.append_nil] at h
  rw [List.map_nil,List.nil_append,List.append_nil]
  exact loop_stm S i D [] h
 | d::D2,i,D,h=>by
  have e:D++d::D2=D++[d]++D2:=by simp
  have hx:decOk d=true:=by
   unfold chkP at h
   rw [Bool.and_eq_true,Bool.and_eq_true,Bool.and_eq_true,List.all_append,Bool.and_eq_true,List.all_cons,Bool.and_eq_true] at h
   exact h.2.2.1.2.1
  rw [e] at h ⊢
  have h':chkP (D++[d]++D2) ([]++S)=true:=h
  rw [List.map_cons,List.cons_append,loopP,tens_dec,ct,decl_is hx]
  dsimp only
  rw [show decide (0<([]:List Stm).length)=false from rfl,endP_ok (chk_pre h'),loop_dec S D2 (i+1) _ h,List.length_cons]
  congr 4
  omega
theorem prog_back{D:List Dec}{S:List Stm}(h:chkP D S=true) :loopP (D.map pDec++S.map pStm) 0 [] []=(D,S,((D.length+S.length:Nat):Int),0):=by
 have:=loop_dec S D 0 [] h
 rw [Nat.zero_add] at this
 exact this
end Go.Proofs.Ytpfploolkmcalaa.VM
end
section
namespace Go.Proofs.Ytpfploolkmcalaa.VM
set_option linter.unusedSectionVars false
set_option linter.unusedVariables false
open Go AM
set_option maxRecDepth 100000
/-! ### the same -/
theorem eq_47(z z2:Bool)(l:List ByteArray)(hb:l.length≤100000) :∀(m i:Nat),m+i=l.length→L47_4 z (strs l) z2 (strs l) (l.length:Int) (i:Int)=some (.t (.bool true),e0)
 | 0,i,h=>by
  rw [L47_4_eq,RL47_4,decide_eq_false (by omega),cf]
 | m+1,i,h=>by
  have hi:i<l.length:=by omega
  rw [L47_4_eq,RL47_4,decide_eq_true (by omega),ct,needC_true (decide_eq_true (by omega)),Int.toNat_natCast,getT_map _ hi,asS_str,needC_true (decide_eq_true (by omega)),getT_map _ hi,asS_str,decide_eq_true rfl,bNT,cf,nat64 (by omega)]
  exact eq_47 z z2 l hb m (i+1) (by omega)
theorem equal47(z z2:Bool)(l:List ByteArray)(hb:l.length≤100000) :vr 47 0 [.t (.list 1 z (strs l)), .t (.list 1 z2 (strs l))] e0=some (.t (.bool true),e0):=by
 have hl:(strs l).length=l.length:=List.length_map ..
 rw [eq47,R47,decide_eq_true rfl,bNT,cf,hl]
 exact eq_47 z z2 l hb l.length 0 (by omega)
theorem eq_61(z z2:Bool)(l:List Int)(hb:l.length≤100000) :∀(m i:Nat),m+i=l.length→L61_4 z (ints l) z2 (ints l) (l.length:Int) (i:Int)=some (.t (.bool true),e0)
 | 0,i,h=>by
  rw [L61_4_eq,RL61_4,decide_eq_false (by omega),cf]
 | m+1,i,h=>by
  have hi:i<l.length:=by omega
  rw [L61_4_eq,RL61_4,decide_eq_true (by omega),ct,needC_true (decide_eq_true (by omega)),Int.toNat_natCast,getT_map _ hi,asI_int,needC_true (decide_eq_true (by omega)),getT_map _ hi,asI_int,decide_eq_true rfl,bNT,cf,nat64 (by omega)]
  exact eq_61 z z2 l hb m (i+1) (by omega)
theorem equal61(z z2:Bool)(l:List Int)(hb:l.length≤100000) :vr 61 0 [.t (.list 1 z (ints l)), .t (.list 1 z2 (ints l))] e0=some (.t (.bool true),e0):=by
 have hl:(ints l).length=l.length:=List.length_map ..
 rw [eq61,R61,decide_eq_true rfl,bNT,cf,hl]
 exact eq_61 z z2 l hb l.length 0 (by omega)
noncomputable abbrev sameV(x:Nd) :Option Res:=vr 23 0 [.t (ndT x), .t (ndT x)] e0
theorem eq_48(z z2:Bool)(ys:List Nd)(hb:ys.length≤100000)(hy:∀y∈ys,sameV y=some (.t (.bool true),e0)) :∀(m i:Nat),m+i=ys.length→L48_4 z (ys.map ndT) z2 (ys.map ndT) (ys.length:Int) (i:Int)=some (.t (.bool true),e0)
 | 0,i,h=>by
  rw [L48_4_eq,RL48_4,decide_eq_false (by omega),cf]
 | m+1,i,h=>by
  have hi:i<ys.length:=by omega
  have hs:=hy _ (List.getElem_mem hi)
  unfold sameV at hs
  have ih:=eq_48 z z2 ys hb hy m (i+1) (by omega)
  rw [L48_4_eq,RL48_4,decide_eq_true (by omega),ct,needC_true (decide_eq_true (by omega)),Int.toNat_natCast,getT_map _ hi]
  rw [ndT_eq] at hs ⊢
  rw [asA_agg,consT_cons,asI_int,consT_cons,asI_int,consT_cons,asS_str,consT_cons,asL_list,consT_cons,asL_list,endT_nil,needC_true (decide_eq_true (by omega)),getT_map _ hi,ndT_eq,asA_agg,consT_cons,asI_int,consT_cons,asI_int,consT_cons,asS_str,consT_cons,asL_list,consT_cons,asL_list,endT_nil,hs,callK_some,asT_t,asB_bool,endB_nil,bNT,cf,nat64 (by omega)]
  exact ih
theorem same48(z z2:Bool)(ys:List Nd)(hb:ys.length≤100000)(hy:∀y∈ys,sameV y=some (.t (.bool true),e0)) :vr 48 0 [.t (.list 5 z (ys.map ndT)), .t (.list 5 z2 (ys.map ndT)), .fn 23 [] []] e0=some (.t (.bool true),e0):=by
 have hl:(ys.map ndT).length=ys.length:=List.length_map ..
 rw [eq48,R48,decide_eq_true rfl,bNT,cf,hl]
 exact eq_48 z2 z ys hb hy ys.length 0 (by omega)
theorem same_of(x:Nd)(hb:(ixN x).length≤100000)(hk:(kdN x).length≤100000)(hy:∀y∈kdN x,sameV y=some (.t (.bool true),e0)) :sameV x=some (.t (.bool true),e0):=by
 unfold sameV
 rw [ndT_eq,eq23,R23,decide_eq_true rfl,ct,decide_eq_true rfl,ct,decide_eq_true rfl,ct,equal47 _ _ _ hb,callK_some,asT_t,asB_bool,endB_nil,ct,same48 _ _ _ hk hy,callK_some,asT_t,asB_bool,endB_nil]
theorem same23 :∀(H:Nat) (x:Nd),wf H x=true→sameV x=some (.t (.bool true),e0)
 | 0,x,h=>by cases h
 | H+1, .zero,h=>by cases h
 | H+1, .num n,h=>same_of _ (Nat.zero_le _) (Nat.zero_le _) (fun y hy=>by cases hy)
 | H+1, .ref s ix,h=>by
  rw [wf,Bool.and_eq_true] at h
  have hi:=h.2
  unfold indexed at hi
  rw [Bool.and_eq_true] at hi
  have:=of_decide_eq_true hi.1
  exact same_of _ (show ix.length≤_ by omega) (Nat.zero_le _) (fun y hy=>by cases hy)
 | H+1, .neg a,h=>same_of _ (Nat.zero_le _) (show [a].length≤_ by simp) (in1 (P:=fun y=>sameV y=some (.t (.bool true),e0)) (same23 H a h))
 | H+1, .sum s a,h=>by
  rw [wf,Bool.and_eq_true] at h
  exact same_of _ (Nat.zero_le _) (show [a].length≤_ by simp) (in1 (P:=fun y=>sameV y=some (.t (.bool true),e0)) (same23 H a h.2))
 | H+1, .bin o a b,h=>by
  rw [wf,Bool.and_eq_true,Bool.and_eq_true] at h
  exact same_of _ (Nat.zero_le _) (show [a,b].length≤_ by simp) (in2 (P:=fun y=>sameV y=some (.t (.bool true),e0)) (same23 H a h.2.1) (same23 H b h.2.2))
theorem eq_59(z z2:Bool)(l:List Dec)(hb:l.length≤100000)(hd:∀d∈l,d.sh.length≤100000) :∀(m i:Nat),m+i=l.length→L59_4 z (l.map deT) z2 (l.map deT) (l.length:Int) (i:Int)=some (.t (.bool true),e0)
 | 0,i,h=>by
  rw [L59_4_eq,RL59_4,decide_eq_false (by omega),cf]
 | m+1,i,h=>by
  have hi:i<l.length:=by omega
  have ih:=eq_59 z z2 l hb hd m (i+1) (by omega)
  rw [L59_4_eq,RL59_4,decide_eq_true (by omega),ct,needC_true (decide_eq_true (by omega)),Int.toNat_natCast,getT_map _ hi]
  unfold deT at ih ⊢
  rw [asA_agg,consT_cons,asS_str,consT_cons,asL_list,consT_cons,asS_str,consT_cons,asI_int,endT_nil,needC_true (decide_eq_true (by omega)),getT_map _ hi,asA_agg,consT_cons,asS_str,consT_cons,asL_list,consT_cons,asS_str,consT_cons,asI_int,endT_nil,eq60,R60,decide_eq_true rfl,ct,decide_eq_true rfl,ct,decide_eq_true rfl,ct,equal61 _ _ _ (hd _ (List.getElem_mem hi)),callK_some,asT_t,asB_bool,endB_nil,callK_some,asT_t,asB_bool,endB_nil,bNT,cf,nat64 (by omega)]
  exact ih
theorem eq_62(z z2:Bool)(l:List Stm)(hb:l.length≤100000)(hd:∀d∈l,d.ix.length≤100000∧wf 16 d.e=true) :∀(m i:Nat),m+i=l.length→L62_4 z (l.map smT) z2 (l.map smT) (l.length:Int) (i:Int)=some (.t (.bool true),e0)
 | 0,i,h=>by
  rw [L62_4_eq,RL62_4,decide_eq_false (by omega),cf]
 | m+1,i,h=>by
  have hi:i<l.length:=by omega
  have ih:=eq_62 z z2 l hb hd m (i+1) (by omega)
  obtain ⟨h1,h2⟩:=hd _ (List.getElem_mem hi)
  have hs:=same23 16 _ h2
  unfold sameV at hs
  rw [ndT_eq] at hs
  rw [L62_4_eq,RL62_4,decide_eq_true (by omega),ct,needC_true (decide_eq_true (by omega)),Int.toNat_natCast,getT_map _ hi]
  unfold smT at ih ⊢
  rw [asA_agg,consT_cons,asS_str,consT_cons,asL_list,consT_cons,asI_int,consT_cons,asI_int,consT_cons,asS_str,consT_cons,asL_list,consT_cons,asL_list,endT_nil,needC_true (decide_eq_true (by omega)),getT_map _ hi,asA_agg,consT_cons,asS_str,consT_cons,asL_list,consT_cons,asI_int,consT_cons,asI_int,consT_cons,asS_str,consT_cons,asL_list,consT_cons,asL_list,endT_nil,eq63,R63,decide_eq_true rfl,ct,equal47 _ _ _ h1,callK_some,asT_t,asB_bool,endB_nil,ct,hs,callK_some,asT_t,asB_bool,endB_nil,callK_some,asT_t,asB_bool,endB_nil,bNT,cf,nat64 (by omega)]
  exact ih
theorem equal26(D:List Dec)(S:List Stm)(h:chkP D S=true) :vr 26 0 [.t (prT D S), .t (prT D S)] e0=some (.t (.bool true),e0):=by
 unfold chkP at h
 rw [Bool.and_eq_true,Bool.and_eq_true,Bool.and_eq_true,List.all_eq_true,List.all_eq_true] at h
 obtain ⟨h1,h2,h3,h4⟩:=h
 have h1:=of_decide_eq_true h1
 have h2:=of_decide_eq_true h2
 have hl:(D.map deT).length=D.length:=List.length_map ..
 have hl2:(S.map smT).length=S.length:=List.length_map ..
 have e1:=eq_59 (!D.isEmpty) (!D.isEmpty) D (by omega) (fun d hd=>by have:=(dec_parts (h3 d hd)).2.1; omega) D.length 0 (by omega)
 have e2:=eq_62 (!S.isEmpty) (!S.isEmpty) S (by omega) (fun x hx=>by obtain ⟨_,a,_,b⟩:=stm_parts (h4 x hx); exact ⟨by omega,b⟩) S.length 0 (by omega)
 unfold prT
 rw [eq26,R26,eq59,R59,decide_eq_true rfl,bNT,cf,hl,show (0:Int)=((0:Nat):Int) from rfl,e1,callK_some,asT_t,asB_bool,endB_nil,ct,eq62,R62,decide_eq_true rfl,bNT,cf,hl2,show (0:Int)=((0:Nat):Int) from rfl,e2,callK_some,asT_t,asB_bool,endB_nil]
/-! ### the text -/
def toksP(D:List Dec)(S:List Stm) :List T:=penAll (D.map pDec++S.map pStm) []
def textE(D:List Dec)(S:List Stm) :List UInt8×Int:=joinE ((toksP D S).map tkOf)
theorem penAll_app :∀(a b:List (List T)) (out:List T),penAll (a++b) out=penAll b (penAll a out)
 | [],b,out=>rfl
 | l::a,b,out=>penAll_app a b _
theorem chk_parts{D:List Dec}{S:List Stm}(h:chkP D S=true) :D.length≤32∧S.length≤32∧(∀d∈D,decOk d=true)∧(∀x∈S,stmOk x=true):=by
 unfold chkP at h
 rw [Bool.and_eq_true,Bool.and_eq_true,Bool.and_eq_true,List.all_eq_true,List.all_eq_true] at h
 exact ⟨of_decide_eq_true h.1,of_decide_eq_true h.2.1,h.2.2.1,h.2.2.2⟩
theorem lines_ok{D:List Dec}{S:List Stm}(h:chkP D S=true) :∀l∈D.map pDec++S.map pStm,AllG l∧l ≠[]:=fun l hl=>by
 obtain ⟨_,_,h3,h4⟩:=chk_parts h
 rcases List.mem_append.1 hl with hl | hl
 ·obtain ⟨d,hd,rfl⟩:=List.mem_map.1 hl
  exact ⟨dec_g (h3 d hd),by unfold pDec; simp⟩
 ·obtain ⟨x,hx,rfl⟩:=List.mem_map.1 hl
  exact ⟨stm_g (h4 x hx),by unfold pStm; simp⟩
theorem wr_prog{D:List Dec}{S:List Stm}(h:chkP D S=true) :Wr (toksP D S):=wr_all _ _ (lines_ok h) ⟨.inl rfl,fun t ht=>by cases ht⟩
theorem text25(D:List Dec)(S:List Stm)(h:chkP D S=true) :vr 25 0 [.t (prT D S)] e0=some (.tup [.t (.str ⟨(textE D S).1.toArray⟩), .t (.int .i64 (textE D S).2)],e0):=by
 obtain ⟨h1,h2,h3,h4⟩:=chk_parts h
 have hw:=wr_prog h
 have hl:(D.map deT).length=D.length:=List.length_map ..
 have hl2:(S.map smT).length=S.length:=List.length_map ..
 obtain ⟨z1,e1,n1⟩:=l25_6 (!D.isEmpty) (!D.isEmpty) (!S.isEmpty) (!S.isEmpty) D (D.map deT) (S.map smT) h1 h3 D.length 0 false [] (by omega) (by simp)
 rw [List.drop_zero] at e1 n1
 obtain ⟨z2,e2,n2⟩:=l25_18 (!S.isEmpty) S h2 h4 S.length 0 z1 (penAll (D.map pDec) []) (by omega) (by omega)
 rw [List.drop_zero,←penAll_app] at e2 n2
 have ht:∀t∈toksP D S,IsTok t:=fun t hm=>(hw.2 t hm).1
 have hj:=wr_wt hw.2
 have hn:(toksP D S).length≤2000000*64:=n2
 unfold prT
 rw [eq25,R25,check24 _ _ D S (by omega) (by omega) (fun d hd=>by have:=(dec_parts (h3 d hd)).2.1; omega),h,callK_some,asT_t,asI_int,endB_nil,ct,show decide ((0:Int)=0)=true from rfl,bNT,cf,hl]
 refine e1.trans ?_
 rw [hl2]
 refine e2.trans ?_
 have e3:=join23 z2 (toksP D S) ht (joinOk_of (by rw [List.length_map]; omega) (by omega))
 unfold toksP at e3
 rw [e3,callK_some,asTup_tup,consV_cons,asT_t,asS_str,consV_cons,asT_t,asI_int,endV_nil,endB_nil]
 rfl
end Go.Proofs.Ytpfploolkmcalaa.VM
end
section
namespace Go.Proofs.Ytpfploolkmcalaa.VM
set_option linter.unusedSectionVars false
set_option linter.unusedVariables false
open Go AM
set_option maxRecDepth 100000
theorem endP_inv{K:PP}{i:Int}{l:List T}{b late:Bool}{D:List Dec}{S:List Stm}(hK:chkP D S=true→(K.2.2.2=0→chkP K.1 K.2.1=true)∧(K.2.2.2 ≠0→K.1=[]∧K.2.1=[])) :
  ((endP K i l b late D S).2.2.2=0→chkP (endP K i l b late D S).1 (endP K i l b late D S).2.1=true)∧((endP K i l b late D S).2.2.2 ≠0→(endP K i l b late D S).1=[]∧(endP K i l b late D S).2.1=[]):=by
 unfold endP
 cases !(!b &&l.isEmpty) with
 | true=>exact ⟨fun h=>absurd h (by rw [ct]; show ¬(6:Int)=0; decide),fun _=>⟨rfl,rfl⟩⟩
 | false=>
  cases late with
  | true=>exact ⟨fun h=>absurd h (by rw [cf,ct]; show ¬(6:Int)=0; decide),fun _=>⟨rfl,rfl⟩⟩
  | false=>
   cases hc:chkP D S with
   | false=>exact ⟨fun h=>absurd h (by rw [cf,cf,bNF,ct]; show ¬(2:Int)=0; decide),fun _=>⟨rfl,rfl⟩⟩
   | true=>exact hK hc
theorem loopP_inv :∀(ls:List (List T)) (i:Nat) (D:List Dec) (S:List Stm),chkP D S=true→
  ((loopP ls i D S).2.2.2=0→chkP (loopP ls i D S).1 (loopP ls i D S).2.1=true)∧((loopP ls i D S).2.2.2 ≠0→(loopP ls i D S).1=[]∧(loopP ls i D S).2.1=[])
 | [],i,D,S,h=>⟨fun _=>h,fun e=>absurd rfl e⟩
 | l::r,i,D,S,h=>by
  rw [loopP]
  cases atB tens l false with
  | true=>rw [ct]; exact endP_inv fun hc=>loopP_inv r (i+1) _ _ hc
  | false=>rw [cf]; exact endP_inv fun hc=>loopP_inv r (i+1) _ _ hc
theorem parse_inv(s:ByteArray) :((parseV (cutOf s)).2.2.2=0→chkP (parseV (cutOf s)).1 (parseV (cutOf s)).2.1=true)∧((parseV (cutOf s)).2.2.2 ≠0→(parseV (cutOf s)).1=[]∧(parseV (cutOf s)).2.1=[]):=by
 obtain ⟨z,l,n,e,h,_⟩:=cutOf_full s
 rw [h]
 unfold parseV
 dsimp only
 cases hd:decide (e=0) with
 | true=>rw [bNT,cf]; exact loopP_inv _ 0 [] [] rfl
 | false=>
  rw [bNF,ct]
  exact ⟨fun h0=>absurd h0 (of_decide_eq_false hd),fun _=>⟨rfl,rfl⟩⟩
theorem text_back{D:List Dec}{S:List Stm}(h:chkP D S=true)(h0:(textE D S).2=0)(hs:(textE D S).1.length≤65536) :
  parseV (cutOf ⟨(textE D S).1.toArray⟩)=(D,S,((D.length+S.length:Nat):Int),0):=by
 have hw:=wr_prog h
 unfold textE at h0 hs ⊢
 rw [cut_of_join (fun t ht=>(hw.2 t ht).1) h0 hs]
 unfold parseV
 dsimp only
 rw [show decide ((0:Int)=0)=true from rfl,bNT,cf]
 unfold progR toksP
 rw [lines_back _ (lines_ok h)]
 exact prog_back h
theorem live9 :vr 9 0 [] e0=some (.t (.bool true),e0):=by
 rw [eq9,R9,parse10]
 kernel_rfl
theorem again_spec(s:ByteArray) :vr 6 0 [.t (.str s)] e0=some (.t (.bool true),e0):=by
 obtain ⟨i1,i2⟩:=parse_inv s
 rw [eq6,R6,live9,callK_some,asT_t,asB_bool,endB_nil]
 cases decide (10000<(s.size:Int)) with
 | true=>rfl
 | false=>
  rw [cf,parse10]
  generalize parseV (cutOf s)=p at i1 i2
  obtain ⟨D,S,n,e⟩:=p
  dsimp only at i1 i2
  unfold ppV prT
  dsimp only
  rw [callK_some,asTup_tup,consV_cons,asT_t,asA_agg,consT_cons,asL_list,consT_cons,asL_list,endT_nil,consV_cons,asT_t,asI_int,consV_cons,asT_t,asI_int,endV_nil,endB_nil]
  cases hd:decide (e=0) with
  | false=>
   obtain ⟨rfl,rfl⟩:=i2 (of_decide_eq_false hd)
   rfl
  | true=>
   have hc:=i1 (of_decide_eq_true hd)
   obtain ⟨h1,h2,h3,h4⟩:=chk_parts hc
   have hsh:∀d∈D,d.sh.length≤200000:=fun d hd=>by have:=(dec_parts (h3 d hd)).2.1; omega
   have htx:=text25 D S hc
   have heq:=equal26 D S hc
   have hj:=wr_join (wr_prog hc)
   have hsz:((⟨(textE D S).1.toArray⟩:ByteArray).size:Int)=((textE D S).1.length:Int):=by simp [ByteArray.size]
   unfold prT at htx heq
   rw [bNT,cf,check24 _ _ D S (by omega) (by omega) hsh,hc,callK_some,asT_t,asI_int,endB_nil,ct,show decide ((0:Int)=0)=true from rfl,bNT,cf,htx,callK_some,asTup_tup,consV_cons,asT_t,asS_str,consV_cons,asT_t,asI_int,endV_nil,endB_nil]
   rcases hj with hj | hj
   ·have hj:(textE D S).2=0:=hj
    rw [hj,hsz,show decide ((0:Int)=0)=true from rfl,bNT,cf]
    cases hg:decide (65536<((textE D S).1.length:Int)) with
    | true=>rfl
    | false=>
     have hg:=of_decide_eq_false hg
     rw [cf,parse10,text_back hc hj (by omega)]
     unfold ppV prT
     dsimp only
     rw [callK_some,asTup_tup,consV_cons,asT_t,asA_agg,consT_cons,asL_list,consT_cons,asL_list,endT_nil,consV_cons,asT_t,asI_int,consV_cons,asT_t,asI_int,endV_nil,endB_nil,ct,show decide ((0:Int)=0)=true from rfl,ct,heq,callK_some,asT_t,asB_bool,endB_nil]
   ·have hj:(textE D S).2=2:=hj
    rw [hj]
    rfl
theorem again_law(s:ByteArray)(ws:s.size≤140737488351232) :∃st,vr 6 0 [.t (.str s)] ⟨[],[]⟩=some (.t (.bool true),st):=⟨e0,again_spec s⟩
end Go.Proofs.Ytpfploolkmcalaa.VM
end
