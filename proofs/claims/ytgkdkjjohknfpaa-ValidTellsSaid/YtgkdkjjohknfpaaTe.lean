/- Merged: Te1 Te2. Conditions: none. -/
import Derived.Test.YtgkdkjjohknfpaaTa
set_option linter.all false
section
namespace Go.Proofs.Ytgkdkjjohknfpaa.VM
set_option linter.unusedSectionVars false
set_option linter.unusedVariables false
open Go AM
def LowT(G F:Fl) :Prop:=∀(k:Nat) (c:Bt),F[k]? =some (some c)→∃d,G[k]? =some (some d)∧SubB d c
theorem sub_both{a b c:Bt}(h:SubB a b)(g:SubB a c) :SubB a (bothB b c):=fun n hn x=>by
 rw [has_both,h n hn x,g n hn x]
 rfl
theorem SubB.anti{a b:Bt}(h:SubB a b)(g:SubB b a) :a=b:=bt_ext fun n hn=>by
 have h1:=h n hn
 have h2:=g n hn
 revert h1 h2
 cases hasB a n <;>cases hasB b n <;>simp
theorem out_mono{x:Ins}(hx:writesB x=true→0≤x.a∧x.a<128){a b:Bt}(h:SubB a b) :SubB (outB x a) (outB x b):=by
 unfold outB
 cases hw:writesB x with
 | false=>exact h
 | true=>
  obtain ⟨h0,h1⟩:=hx hw
  rw [ct,ct]
  intro n hn hy
  rw [has_with _ _ _ (by omega) hn] at hy ⊢
  rcases Bool.or_eq_true _ _▸hy with h2 | h2
  ·rw [h n hn h2]; rfl
  ·rw [h2,Bool.or_true]
theorem come_low{b:Bt}{G:Fl}{x:Fl×List Int}{k:Int}(h0:0≤k)(h1:k<(x.1.length:Int))(hl:LowT G x.1)(hk:∃e,G[k.toNat]? =some (some e)∧SubB e b) :LowT G (comeF b x k).1:=by
 have hkl:k.toNat<x.1.length:=by omega
 have hF:x.1[k.toNat]? =some x.1[k.toNat]:=List.getElem?_eq_getElem hkl
 unfold comeF
 cases hc:chgB b k.toNat x.1 with
 | false=>exact hl
 | true=>
  rw [ct]
  intro j c hj
  have hs:(x.1.set k.toNat (some (newB b k.toNat x.1)))[j]? =some (some c):=hj
  clear hj
  rw [List.getElem?_set] at hs
  by_cases e:k.toNat=j
  ·rw [if_pos e,if_pos hkl] at hs
   subst e
   obtain ⟨d,h2,h3⟩:=hk
   refine ⟨d,h2, ?_⟩
   have hj:newB b k.toNat x.1=c:=by simpa using hs
   rw [←hj]
   unfold newB
   rw [hF]
   cases ho:x.1[k.toNat] with
   | none=>exact h3
   | some c2=>
    rw [ho] at hF
    obtain ⟨d2,h4,h5⟩:=hl _ _ hF
    rw [h2] at h4
    cases h4
    exact sub_both h3 h5
  ·rw [if_neg e] at hs
   exact hl j c hs
theorem fold_low{b:Bt}{G:Fl} :∀(ks:List Int) (x:Fl×List Int),(∀k∈ks,0≤k∧k<(x.1.length:Int))→LowT G x.1→(∀k∈ks,∃e,G[k.toNat]? =some (some e)∧SubB e b)→LowT G (ks.foldl (comeF b) x).1
 | [],_,_,h,_=>h
 | k::ks,x,hk,h,hg=>by
  obtain ⟨a1,a2⟩:=hk k (by simp)
  exact fold_low ks _ (fun q hq=>by rw [come_len]; exact hk q (List.mem_cons_of_mem _ hq)) (come_low a1 a2 h (hg k (by simp))) fun q hq=>hg q (List.mem_cons_of_mem _ hq)
theorem Runs.low{L:List Ins}(fl:FineL L){F F':Fl}{td:List Int}(h:Runs L F td F'){G:Fl}(hG:ClosedT L G []) :F.length=L.length→LowT G F→LowT G F':=by
 induction h with
 | done=>exact fun _ h=>h
 | step ht hb hr ih=>
  rename_i F F' ts t b
  intro hl hlow
  obtain ⟨d,h1,h2⟩:=hlow t b hb
  have hlen:=(fold_w (b:=outB L[t] b) (nextL L[t] (t:Int)) (F,ts) fun k hk=>by rw [hl]; exact fl.next t ht k hk).1
  refine ih (hlen.trans hl) (fold_low _ (F,ts) (fun k hk=>by rw [hl]; exact fl.next t ht k hk) hlow fun k hk=> ?_)
  rcases hG t ht d h1 with h3 | h3
  ·cases h3
  ·obtain ⟨e,h4,h5⟩:=h3 k hk
   exact ⟨e,h4,h5.trans (out_mono (fl.wr t ht) h2)⟩
theorem FlowOf.low{L:List Ins}(fl:FineL L){F:Fl}(h:FlowOf L F){G:Fl}(hG:ClosedT L G [])(h0:∃d,G[0]? =some (some d)∧SubB d (0,0)) :LowT G F:=by
 refine Runs.low fl h hG (init_len _) fun k c hk=> ?_
 have:=init_at hk
 subst this
 have hn:0<L.length:=by
  rcases Nat.eq_zero_or_pos L.length with e | e
  ·have:(initF L.length)[0]? =none:=by rw [List.getElem?_eq_none]; rw [init_len,e]; exact Nat.le_refl _
   rw [this] at hk
   cases hk
  ·exact e
 rw [init_zero hn] at hk
 cases hk
 exact h0
theorem FlowOf.zero{L:List Ins}(fl:FineL L)(h0:0<L.length){F:Fl}(h:FlowOf L F) :F[0]? =some (some (0,0)):=by
 obtain ⟨_,_,h3⟩:=Runs.closed fl h (init_len _) fun i _ b hb=>by
  have:=init_at hb
  subst this
  exact .inl (by simp)
 obtain ⟨d,h4,h5⟩:=h3 0 _ (init_zero h0)
 have hz:SubB (0,0) d:=fun n hn hx=>by
  have:hasB (0,0) n=false:=by
   unfold hasB
   by_cases e:n<64
   ·rw [decide_eq_true e,ct]; simp
   ·rw [decide_eq_false e,cf]; simp
  rw [this] at hx
  cases hx
 rw [h4,h5.anti hz]
def badB(i:Int)(x:Ins) :Bool:=(decide (x.op=7) || decide (x.op=9)) &&decide (x.a<i)
def wrIx(i:Int) :List Ins→Nat→Int
 | [],_=> -1
 | x::l,j=>bif badB i x then (j:Int) else wrIx i l (j+1)
theorem wr_any(i:Int) :∀(l:List Ins) (j:Nat),decide (0≤wrIx i l j)=l.any (badB i)
 | [],_=>rfl
 | x::l,j=>by
  rw [List.any_cons,wrIx]
  cases badB i x with
  | true=>exact decide_eq_true (Int.natCast_nonneg j)
  | false=>rw [cf,bFO]; exact wr_any i l (j+1)
abbrev stC(r a i:Int)(z:Bool)(l:List T) :Bs:=[(0, .var [.t (.int .i64 r), .t (.int .i64 a), .t (.int .i64 i), .t (.list 5 z l)])]
theorem bad41(r a i:Int)(z:Bool)(l:List T)(x:Ins) :vr 41 0 [.t (insT x), .ptr 0 0 0] ⟨stC r a i z l,[]⟩=some (.t (.bool (badB i x)),⟨stC r a i z l,[500]⟩):=by
 unfold insT badB
 rw [eq41,R41]
 cases decide (x.op=7)
 ·rw [cf]
  cases decide (x.op=9)
  ·rw [cf,bFO,bFA]
  ·rw [ct,bFO,bTA]
 ·rw [ct,bTO,bTA]
theorem L59v1_spec(r a i:Int)(z z2:Bool)(c:List T)(l:List Ins)(hb:l.length≤1000) :∀(m j:Nat),m+j=l.length→
  L59v1_2 z (l.map insT) ((l.length:Nat):Int) (j:Int) r a i z2 c=some (.t (.int .i64 (wrIx i (l.drop j) j)),⟨stC r a i z2 c,[500]⟩)
 | 0,j,h=>by
  have d:decide ((j:Int)<((l.length:Nat):Int))=false:=decide_eq_false (by omega)
  rw [L59v1_2_eq,RL59v1_2,d,cf,List.drop_of_length_le (by omega)]
  rfl
 | m+1,j,h=>by
  have d:decide ((j:Int)<((l.length:Nat):Int))=true:=decide_eq_true (by omega)
  have n0:decide ((0:Int)≤(j:Int))=true:=decide_eq_true (by omega)
  have hw:IntKind.i64.wrap ((j:Int)+1)=((j+1:Nat):Int):=by rw [wrap64 (by omega) (by omega)]; simp
  have hlt:j<l.length:=by omega
  have hg:(l.map insT)[j]? =some (insT l[j]):=by rw [List.getElem?_map,List.getElem?_eq_getElem hlt]; rfl
  have h41:=bad41 r a i z2 c l[j]
  have ih:=L59v1_spec r a i z z2 c l hb m (j+1) (by omega)
  rw [L59v1_2_eq,RL59v1_2,d,ct,needC_true n0,Int.toNat_natCast,getT_at hg,List.drop_eq_getElem_cons hlt,wrIx]
  have hi2:insT l[j]= .agg [.int .i64 (l[j]).op, .int .i64 (l[j]).a, .int .i64 (l[j]).b, .int .i64 (l[j]).c, .int .i64 (l[j]).n]:=rfl
  rw [hi2] at h41 ⊢
  rw [asA_agg,consT_cons,asI_int,consT_cons,asI_int,consT_cons,asI_int,consT_cons,asI_int,consT_cons,asI_int,endT_nil,h41,callK_some,asT_t,asB_bool,consB_cons,asVar_var,consV_cons,asT_t,asI_int,consV_cons,asT_t,asI_int,consV_cons,asT_t,asI_int,consV_cons,asT_t,asL_list,endV_nil,endB_nil,hw]
  cases badB i l[j] with
  | true=>rfl
  | false=>rw [cf,cf]; exact ih
theorem valid14(r a i:Int)(z:Bool)(L:List Ins)(hl:L.length≤400) :
  (checkB r a i L=false∧vr 14 0 [.t (cdT r a i z L)] e0=some (.t (.int .i64 1),e0))∨
  (checkB r a i L=true∧∃F,FlowOf L F∧vr 14 0 [.t (cdT r a i z L)] e0=some (.t (.int .i64 (bif decide (0<((askL L F 0).length:Int)) then 7 else bif L.any (badB i) then 3 else 0)),e0)):=by
 rcases unset25 r a i z L hl with ⟨h1,h2⟩ | ⟨h1,F,h2,h3⟩
 ·left
  refine ⟨h1, ?_⟩
  unfold cdT at h2 ⊢
  rw [eq14,R14,h2,callK_some]
  rfl
 ·right
  refine ⟨h1,F,h2, ?_⟩
  have hz:(!decide ((0:Int)=0))=false:=rfl
  unfold cdT at h3 ⊢
  rw [eq14,R14,h3,callK_some]
  unfold numsV
  rw [asTup_tup,consV_cons,asT_t,asL_list,consV_cons,asT_t,asI_int,endV_nil,endB_nil,hz,cf,ints_len]
  cases decide (0<((askL L F 0).length:Int)) with
  | true=>rfl
  | false=>
   have h59:=L59v1_spec r a i z z (L.map insT) L (by omega) L.length 0 (by omega)
   rw [List.drop_zero] at h59
   rw [cf,cf,eq40v1,R40v1,eq59v1,R59v1,List.length_map]
   have h0:L59v1_2 z (L.map insT) (L.length:Int) 0 r a i z (L.map insT)=L59v1_2 z (L.map insT) (L.length:Int) ((0:Nat):Int) r a i z (L.map insT):=rfl
   rw [h0,h59,callK_some,asT_t,asI_int,consB_cons,asVar_var,consV_cons,asT_t,asI_int,consV_cons,asT_t,asI_int,consV_cons,asT_t,asI_int,consV_cons,asT_t,asL_list,endV_nil,endB_nil,callK_some,asT_t,asB_bool,consB_cons,asVar_var,consV_cons,asT_t,asI_int,consV_cons,asT_t,asI_int,consV_cons,asT_t,asI_int,consV_cons,asT_t,asL_list,endV_nil,endB_nil,wr_any]
   cases L.any (badB i) <;>rfl
theorem ask_nil :∀(L:List Ins) (F:Fl) (j:Nat),F.length=L.length→(askL L F j=[]↔∀k (h:k<L.length) b,F[k]? =some (some b)→asksB L[k] b=false)
 | [],F,j,_=>⟨fun _ k h=>absurd h (Nat.not_lt_zero _),fun _=>by unfold askL; rfl⟩
 | x::L,[],j,h=>by simp at h
 | x::L,o::F,j,h=>by
  have ih:=ask_nil L F (j+1) (by simpa using h)
  rw [askL_cons,List.append_eq_nil_iff,ih]
  constructor
  ·rintro ⟨h1,h2⟩ k hk b hb
   cases k with
   | zero=>
    have:o=some b:=by simpa using hb
    subst this
    rw [Option.isSome_some,bTA,Option.getD_some] at h1
    show asksB x b=false
    cases hx:asksB x b with
    | true=>rw [hx] at h1; cases h1
    | false=>rfl
   | succ k=>exact h2 k (by simpa using hk) b (by simpa using hb)
  ·intro h1
   refine ⟨?_,fun k hk b hb=>h1 (k+1) (by simpa using hk) b (by simpa using hb)⟩
   cases o with
   | none=>rfl
   | some b=>
    have h2:asksB x b=false:=h1 0 (by simp) b rfl
    rw [Option.isSome_some,bTA,Option.getD_some,h2]
    rfl
theorem Runs.det{L:List Ins}{F F1 F2:Fl}{td:List Int}(h:Runs L F td F1) :Runs L F td F2→F1=F2:=by
 induction h with
 | done=>exact fun h=>(Runs.end h).symm
 | step ht hb hr ih=>
  intro h2
  obtain ⟨_,b2,hb2,hr2⟩:=h2.inv rfl
  rw [hb] at hb2
  cases hb2
  exact ih hr2
theorem FlowOf.one{L:List Ins}{F F1:Fl}(h:FlowOf L F)(h1:FlowOf L F1) :F1=F:=(Runs.det h h1).symm
theorem reach13(r a i:Int)(z:Bool)(L:List Ins)(hl:L.length≤400) :
  (checkB r a i L=false∧vr 13 0 [.t (cdT r a i z L)] e0=some (.tup [.t (.list 1 false []), .t (.int .i64 1)],e0))∨
  (checkB r a i L=true∧∃F,FlowOf L F∧vr 13 0 [.t (cdT r a i z L)] e0=some (.tup [.t (.list 1 true (rchL F)), .t (.int .i64 0)],e0)):=by
 rcases start33 r a i z L hl with ⟨h1,h2⟩ | ⟨h1,F,h2,h3⟩
 ·left
  refine ⟨h1, ?_⟩
  unfold cdT at h2 ⊢
  rw [eq13,R13,h2,callK_some]
  rfl
 ·right
  refine ⟨h1,F,h2, ?_⟩
  have hf:fitsH (.tup [.nilp,(.t (.one (.int .i64)))]) [] (.tup [.ptr 500 0 0, .t (.int .i64 0)]) (flowS r a i z (L.map insT) F).blks=false:=by rfl
  have hz:(!decide ((0:Int)=0))=false:=rfl
  unfold cdT at h3 ⊢
  rw [eq13,R13,h3,callK_some,hf,cf,asTup_tup,consV_cons,isPtr_ptr,consV_cons,asT_t,asI_int,endV_nil,consB_cons,asVar_var,consV_cons,asT_t,asI_int,consV_cons,asT_t,asI_int,consV_cons,asT_t,asI_int,consV_cons,asT_t,asL_list,consV_cons,isBuf_buf,consV_cons,isBuf_buf,endV_nil,consB_cons,asArr_arr,consB_cons,asArr_arr,endB_nil,hz,cf]
end Go.Proofs.Ytgkdkjjohknfpaa.VM
end
section
namespace Go.Proofs.Ytgkdkjjohknfpaa.VM
set_option linter.unusedSectionVars false
set_option linter.unusedVariables false
open Go AM
def setR(b:Bt)(n:Nat) :Nat→List Int
 | 0=>[]
 | m+1=>(bif hasB b n then [(n:Int)] else [])++setR b (n+1) m
def setO(r:Nat)(o:Option Bt) :List Int:=match o with | some b=>setR b 0 r | none=>[]
def rowO(r:Nat)(o:Option Bt) :RowV:=RowV.own (!(setO r o).isEmpty) (ints (setO r o))
def setsF(r:Nat)(F:Fl) :List T:=F.map fun o=> .list 1 (!(setO r o).isEmpty) (ints (setO r o))
theorem rowC_at{R:Type}{l:List RowV}{i:Nat}{nn:Bool}{c:List T}{K:Bool→List T→Option R}(h:l[i]? =some (RowV.own nn c)) :rowC l i K=K nn c:=by
 unfold rowC
 rw [h]
theorem set_self{l:List RowV}{i:Nat}{x:RowV}(h:l[i]? =some x) :l.set i x=l:=by
 refine List.ext_getElem? fun j=> ?_
 rw [List.getElem?_set]
 by_cases e:i=j
 ·subst e
  rw [if_pos rfl,h]
  split
  ·rfl
  ·rename_i hn
   rw [List.getElem?_eq_none (by omega)] at h
   cases h
 ·rw [if_neg e]
theorem ints_snoc(l:List Int)(n:Int) :ints l++[(.int .i64 n:T)]=ints (l++[n]):=by
 unfold ints
 rw [List.map_append]
 rfl
theorem setR_len(b:Bt) :∀(m n:Nat),(setR b n m).length≤m
 | 0,n=>Nat.le_refl _
 | m+1,n=>by
  have:=setR_len b m (n+1)
  unfold setR
  rw [List.length_append]
  cases hasB b n <;>simp <;>omega
theorem L12_9_spec(t26:Int)(r a i r2 a2 i2:Int)(z z2:Bool)(l l2:List T)(F:Fl)(j:Nat)(b:Bt)(hj:F[j]? =some (some b))(hF:F.length≤400)(R:Nat)(hR:R≤128)(hr:r=(R:Int)) :∀(m n:Nat) (rows:List RowV) (out:List Int),m+n=R→out.length≤n→rows[j]? =some (RowV.own (!out.isEmpty) (ints out))→
  L12_9 (j:Int) (n:Int) t26 (j:Int) r a i z l r2 a2 i2 z2 l2 true (bitsL F) true (rchL F) rows [.int .u64 (b.1.toNat:Int), .int .u64 (b.2.toNat:Int)]=
   L12_6 t26 (IntKind.i64.wrap ((j:Int)+1)) r a i z l r2 a2 i2 z2 l2 true (bitsL F) true (rchL F) (rows.set j (RowV.own (!(out++setR b n m).isEmpty) (ints (out++setR b n m))))
 | 0,n,rows,out,h,ho,hrow=>by
  have d:decide ((n:Int)<r)=false:=decide_eq_false (by omega)
  rw [L12_9_eq,RL12_9,d,cf]
  unfold setR
  rw [List.append_nil,set_self hrow]
 | m+1,n,rows,out,h,ho,hrow=>by
  have hjl:j<F.length:=by
   rcases Nat.lt_or_ge j F.length with h | h
   ·exact h
   ·rw [List.getElem?_eq_none h] at hj; cases hj
  have hjr:j<rows.length:=by
   rcases Nat.lt_or_ge j rows.length with h | h
   ·exact h
   ·rw [List.getElem?_eq_none h] at hrow; cases hrow
  have d:decide ((n:Int)<r)=true:=decide_eq_true (by omega)
  have n0:(decide ((0:Int)≤(j:Int)) &&decide ((j:Int)<((rchL F).length:Int)))=true:=by
   rw [rch_len,decide_eq_true (by omega:(0:Int)≤(j:Int)),decide_eq_true (by omega:(j:Int)<(F.length:Int))]; rfl
  have n1:(decide ((0:Int)≤(j:Int)) &&decide ((j:Int)<(rows.length:Int)))=true:=by
   rw [decide_eq_true (by omega:(0:Int)≤(j:Int)),decide_eq_true (by omega:(j:Int)<(rows.length:Int))]; rfl
  have n2:(decide ((0:Int)≤(j:Int)) &&decide ((j:Int)<((rows.set j .gone).length:Int)))=true:=by rw [List.length_set]; exact n1
  have n3:decide (j<(rows.set j .gone).length)=true:=decide_eq_true (by rw [List.length_set]; exact hjr)
  have hw:IntKind.i64.wrap ((n:Int)+1)=((n+1:Nat):Int):=by rw [wrap64 (by omega) (by omega)]; simp
  have h39:=has39 b n (by omega)
  have ha:=app_ok (n:=(ints out).length) (by rw [ints_len]; omega)
  unfold btT at h39
  rw [L12_9_eq,RL12_9,d,ct,needC_true n0,Int.toNat_natCast,getT_at (rch_at hj),asB_bool]
  show (bif true then _ else _)=_
  rw [ct]
  show consT [T.int .u64 (b.1.toNat:Int),T.int .u64 (b.2.toNat:Int)] _=_
  rw [consT_cons,asI_int,consT_cons,asI_int,endT_nil,h39,callK_some,asT_t,asB_bool,endB_nil]
  unfold setR
  cases hb:hasB b n with
  | false=>
   rw [cf,cf,hw,L12_9_spec t26 r a i r2 a2 i2 z z2 l l2 F j b hj hF R hR hr m (n+1) rows out (by omega) (by omega) hrow]
   rfl
  | true=>
   have hne:(!out.isEmpty || true)=(!(out++[(n:Int)]).isEmpty):=by cases out <;>rfl
   rw [ct,ct,needC_true n1,rowC_at hrow,needC_true ha,needC_true n2,needC_true n3,hw,List.set_set,ints_snoc,hne]
   rw [L12_9_spec t26 r a i r2 a2 i2 z z2 l l2 F j b hj hF R hR hr m (n+1) _ (out++[(n:Int)]) (by omega) (by simp; omega) (by rw [List.getElem?_set,if_pos rfl,if_pos hjr]),List.set_set,List.append_assoc]
theorem L12_6_spec(r a i r2 a2 i2:Int)(z z2:Bool)(l l2:List T)(F:Fl)(hF:F.length≤400)(R:Nat)(hR:R≤128)(hr:r=(R:Int)) :∀(m j:Nat),m+j=F.length→
  L12_6 (F.length:Int) (j:Int) r a i z l r2 a2 i2 z2 l2 true (bitsL F) true (rchL F) ((F.take j).map (rowO R)++List.replicate m (RowV.own false []))=some (.tup [.t (.list 1 true (setsF R F)), .t (.int .i64 0)],e0)
 | 0,j,h=>by
  have d:decide ((j:Int)<(F.length:Int))=false:=decide_eq_false (by omega)
  have ht:∀G:Fl,treesOf 1 (G.map (rowO R))=some (setsF R G):=by
   intro G
   induction G with
   | nil=>rfl
   | cons o G ih=>
    show (treesOf 1 (G.map (rowO R))).map _=_
    rw [ih]
    rfl
  rw [L12_6_eq,RL12_6,d,cf,List.take_of_length_le (by omega)]
  unfold treesC
  rw [List.replicate_zero,List.append_nil,ht]
 | m+1,j,h=>by
  have hjl:j<F.length:=by omega
  have hj:F[j]? =some F[j]:=List.getElem?_eq_getElem hjl
  have d:decide ((j:Int)<(F.length:Int))=true:=decide_eq_true (by omega)
  have n0:(decide ((0:Int)≤(j:Int)) &&decide ((j:Int)<((bitsL F).length:Int)))=true:=by
   rw [bits_len,decide_eq_true (by omega:(0:Int)≤(j:Int)),decide_eq_true (by omega:(j:Int)<(F.length:Int))]; rfl
  have hw:IntKind.i64.wrap ((j:Int)+1)=((j+1:Nat):Int):=by rw [wrap64 (by omega) (by omega)]; simp
  have hlen:((F.take j).map (rowO R)).length=j:=by rw [List.length_map,List.length_take]; omega
  have hrow:((F.take j).map (rowO R)++List.replicate (m+1) (RowV.own false []))[j]? =some (RowV.own (!([]:List Int).isEmpty) (ints [])):=by
   rw [List.getElem?_append_right (by omega),hlen,Nat.sub_self]
   rfl
  have hset:∀x,((F.take j).map (rowO R)++List.replicate (m+1) (RowV.own false [])).set j x=(F.take j).map (rowO R)++x::List.replicate m (RowV.own false []):=by
   intro x
   rw [List.set_append_right _ _ (by omega),hlen,Nat.sub_self]
   rfl
  have hnext:∀x,rowO R F[j]=x→(F.take j).map (rowO R)++x::List.replicate m (RowV.own false [])=(F.take (j+1)).map (rowO R)++List.replicate m (RowV.own false []):=by
   intro x hx
   rw [←List.take_append_getElem hjl,List.map_append,List.append_assoc,←hx]
   rfl
  have hb:=bits_at hj
  unfold btT at hb
  rw [L12_6_eq,RL12_6,d,ct,needC_true n0,Int.toNat_natCast,getT_at hb,asA_agg,consT_cons,asI_int,consT_cons,asI_int,endT_nil]
  have ih:=L12_6_spec r a i r2 a2 i2 z z2 l l2 F hF R hR hr m (j+1) (by omega)
  cases ho:F[j] with
  | some b=>
   rw [ho] at hj
   have h9:=L12_9_spec (F.length:Int) r a i r2 a2 i2 z z2 l l2 F j b hj hF R hR hr R 0 _ [] (by omega) (Nat.le_refl _) hrow
   rw [hset,List.nil_append,hw,hnext _ (by rw [ho]; rfl),ih] at h9
   exact h9
  | none=>
   rw [ho] at hj
   have n1:(decide ((0:Int)≤(j:Int)) &&decide ((j:Int)<((rchL F).length:Int)))=true:=by rw [rch_len,←bits_len]; exact n0
   have he:(F.take j).map (rowO R)++List.replicate (m+1) (RowV.own false [])=(F.take (j+1)).map (rowO R)++List.replicate m (RowV.own false []):=by
    rw [←hnext _ (by rw [ho]; rfl:rowO R F[j]=RowV.own false [])]
    rfl
   rw [L12_9_eq,RL12_9,hw,he,ih]
   cases decide ((0:Int)<r) with
   | false=>rfl
   | true=>rw [ct,needC_true n1,Int.toNat_natCast,getT_at (rch_at hj)]; rfl
theorem set12(r a i:Int)(z:Bool)(L:List Ins)(hl:L.length≤400) :
  (checkB r a i L=false∧vr 12 0 [.t (cdT r a i z L)] e0=some (.tup [.t (.list 1 false []), .t (.int .i64 1)],e0))∨
  (checkB r a i L=true∧∃F,FlowOf L F∧vr 12 0 [.t (cdT r a i z L)] e0=some (.tup [.t (.list 1 true (setsF r.toNat F)), .t (.int .i64 0)],e0)):=by
 rcases start33 r a i z L hl with ⟨h1,h2⟩ | ⟨h1,F,h2,h3⟩
 ·left
  refine ⟨h1, ?_⟩
  unfold cdT at h2 ⊢
  rw [eq12,R12,h2,callK_some]
  rfl
 ·right
  refine ⟨h1,F,h2, ?_⟩
  have hok:=(check_iff r a i L).1 h1
  have fl:=fine_of hok hl
  obtain ⟨c1,_,_⟩:=FlowOf.closed fl (Nat.pos_of_ne_zero hok.len0) h2
  have hf:fitsH (.tup [.nilp,(.t (.one (.int .i64)))]) [] (.tup [.ptr 500 0 0, .t (.int .i64 0)]) (flowS r a i z (L.map insT) F).blks=false:=by rfl
  have hz:(!decide ((0:Int)=0))=false:=rfl
  have n1:(decide (0≤((L.map insT).length:Int)) &&decide (((L.map insT).length:Int)≤((L.map insT).length:Int)) &&decide (((L.map insT).length:Int)*(24+1)≤70368744177664))=true:=by
   rw [List.length_map,decide_eq_true (by omega:(0:Int)≤(L.length:Int)),decide_eq_true (Int.le_refl _),decide_eq_true (by omega:(L.length:Int)*(24+1)≤70368744177664)]
   rfl
  have e1:(((L.map insT).length:Int)).toNat=F.length:=by rw [List.length_map,c1]; omega
  have e2:(List.replicate F.length (T.list 1 false [])).map rowOf=List.replicate F.length (RowV.own false []):=by rw [List.map_replicate]; rfl
  have h6:=L12_6_spec r a i r a i z z (L.map insT) (L.map insT) F (by omega) r.toNat (by have:=hok.r1; omega) (by have:=hok.r0; omega) F.length 0 (by omega)
  unfold cdT at h3 ⊢
  rw [eq12,R12,h3,callK_some,hf,cf,asTup_tup,consV_cons,isPtr_ptr,consV_cons,asT_t,asI_int,endV_nil,consB_cons,asVar_var,consV_cons,asT_t,asI_int,consV_cons,asT_t,asI_int,consV_cons,asT_t,asI_int,consV_cons,asT_t,asL_list,consV_cons,isBuf_buf,consV_cons,isBuf_buf,endV_nil,consB_cons,asArr_arr,consB_cons,asArr_arr,endB_nil,hz,cf,needC_true n1,e1,e2,bits_len]
  exact h6
end Go.Proofs.Ytgkdkjjohknfpaa.VM
end
