/- Merged: Vm23 Vm24 Vm25 Vm26 Vm27 Vm28 Vm29 Vj. Conditions: none. -/
import Derived.Test.YtpfploolkmcalaaVmC
import Derived.Test.YtpfploolkmcalaaAmD
import Derived.Lib.Bytealg
import Derived.Test.YtpfploolkmcalaaRows
import Derived.ChangeSlices
import Derived.ChangeOld
set_option linter.all false
section
namespace Go.Proofs.Ytpfploolkmcalaa.VM
open Go AM
set_option linter.unusedSectionVars false
set_option linter.unusedSimpArgs false
set_option linter.unusedVariables false
section
variable (P:Program) (H:Hint)
noncomputable def ctxV{R:Type}(f w nt:Nat) :List Stp→Code→(Ex→Env→St→Option R)→Ex→Env→St→Option R
 | [],_,K=>K
 | .fst::p, .seq a b,K=>ctxV f w nt p a (seqV (fun e' h'=>normE H f w b e' h' fun e' h'=>codeV P H (vrun P H) f w nt R K e' h' b) K)
 | .snd::p, .seq _ b,K=>ctxV f w nt p b K
 | .yes::p, .cond _ a _,K=>ctxV f w nt p a K
 | .no::p, .cond _ _ b,K=>ctxV f w nt p b K
 | .blk::p, .block id b,K=>ctxV f w nt p b (blockV id K)
 | .blk::p, .scope b,K=>ctxV f w nt p b K
 | .lp::p, .loop b,K=>ctxV f w nt p b (seqV (fun e' h'=>normE H f w b e' h' fun e' h'=>codeV P H (vrun P H) f w nt R K e' h' (.loop b)) K)
 | _,_,K=>K
noncomputable def atV(f w:Nat)(fn:Func)(nt:Nat)(p:List Stp)(e:Env)(h:St) :Option (V×St):=
 codeV P H (vrun P H) f w nt (V×St) (ctxV P H f w nt p (bodyOf fn) (resKV P fn (H.own f w))) e h (nav p (bodyOf fn))
theorem atV_loop{f w:Nat}{fn:Func}{nt:Nat}{p:List Stp}{e:Env}{h:St}{b:Code}(hb:nav p (bodyOf fn)= .loop b)(hr:rounds H f w b=0) :
  atV P H f w fn nt p e h=codeV P H (vrun P H) f w nt (V×St) (seqV (fun e' h'=>normE H f w b e' h' fun e' h'=>codeV P H (vrun P H) f w nt (V×St) (ctxV P H f w nt p (bodyOf fn) (resKV P fn (H.own f w))) e' h' (.loop b)) (ctxV P H f w nt p (bodyOf fn) (resKV P fn (H.own f w)))) e h b:=by
 unfold atV
 rw [hb,loopV_eq P H _ f w nt b hr]
end
end Go.Proofs.Ytpfploolkmcalaa.VM
end
section
namespace Go.Proofs.Ytpfploolkmcalaa.VM
set_option linter.unusedVariables false
set_option linter.unusedSimpArgs false
set_option linter.unusedSectionVars false
open Go AM
section
variable {R:Type}
def asI(k:IntKind)(x:T)(K:Int→Option R) :Option R:=match x with | .int k' n=>bif decide (k'=k) then K n else none | _=>none
def asB(x:T)(K:Bool→Option R) :Option R:=match x with | .bool b=>K b | _=>none
def asS(x:T)(K:ByteArray→Option R) :Option R:=match x with | .str b=>K b | _=>none
def asL(s:Nat)(x:T)(K:Bool→List T→Option R) :Option R:=match x with | .list s' nn l=>bif s'==s then K nn l else none | _=>none
def asA(x:T)(K:List T→Option R) :Option R:=match x with | .agg cs=>K cs | _=>none
def consT(l:List T)(K:T→List T→Option R) :Option R:=match l with | x::xs=>K x xs | []=>none
def endT(l:List T)(K:Option R) :Option R:=match l with | []=>K | _::_=>none
def asT(v:V)(K:T→Option R) :Option R:=match v with | .t x=>K x | _=>none
def asTup(v:V)(K:List V→Option R) :Option R:=match v with | .tup x=>K x | _=>none
def consV(l:List V)(K:V→List V→Option R) :Option R:=match l with | x::xs=>K x xs | []=>none
def endV(l:List V)(K:Option R) :Option R:=match l with | []=>K | _::_=>none
def endB(l:Bs)(K:Option R) :Option R:=match l with | []=>K | _::_=>none
def consB(i:Nat)(l:Bs)(K:Blk→Bs→Option R) :Option R:=match l with | (j,b)::bs=>bif j==i then K b bs else none | []=>none
def asArr(s:Nat)(b:Blk)(K:Bool→List T→Option R) :Option R:=match b with | .arr own sz nn l=>bif own &&sz==s then K nn l else none | _=>none
def asMp(b:Blk)(K:List (T×T)→Option R) :Option R:=match b with | .map l=>K l | _=>none
def asVar(b:Blk)(K:List V→Option R) :Option R:=match b with | .var l=>K l | _=>none
def isBuf(id:Nat)(v:V)(K:Option R) :Option R:=match v with | .buf id'=>bif id'==id then K else none | _=>none
def callK(o:Option (V×St))(K:V→Bs→Option R) :Option R:=o.bind fun r=>K r.1 r.2.blks
def subS(s:ByteArray)(lo hi:Option Int)(K:ByteArray→Option R) :Option R:=
 needC (decide (0≤lo.getD 0) &&decide (lo.getD 0≤hi.getD s.size) &&decide (hi.getD s.size≤(s.size:Int))) fun _=>K (s.extract (lo.getD 0).toNat (hi.getD s.size).toNat)
def putC(es:List (T×T))(k x:T)(K:List (T×T)→Option R) :Option R:=match lookT es k with | some _=>K (putT es k x) | none=>none
end
def look2{A:Type} :List (Nat×Nat×A)→Nat→Nat→Option A
 | [],_,_=>none
 | (a,b,x)::l,f,w=>bif a==f &&b==w then some x else look2 l f w
def look1{A:Type} :List (Nat×A)→Nat→Option A
 | [],_=>none
 | (a,x)::l,f=>bif a==f then some x else look1 l f
def ovIndex(l:List V) :Option V:=
 match l with
 | [.t (.str s), .t (.int .u8 c)]=>some (.t (.int .i64 (Lib.indexByte s.data.toList c.toNat.toUInt8)))
 | _=>none
def ovIndexA(l:List Value) :Option Value:=
 match l with
 | [.string s, .int .u8 c]=>some (.int .i64 (Lib.indexByte s.data.toList c.toNat.toUInt8))
 | _=>none
structure OvF where
 run:CallF→List V→Option V
 mono:∀c c':CallF,(∀g w vs st r,c g w vs st=some r→c' g w vs st=some r)→∀vs v,run c vs=some v→run c' vs=some v
def ovIdx :OvF:=⟨fun _ l=>ovIndex l,fun _ _ _ _ _ h=>h⟩
def mkHint(eqt:List (Nat×List Value))(norm:List (Nat×Nat×List (Nat×Norm)))(call:List (Nat×Nat×List (Nat×Nat×CallH)))(own:List (Nat×Nat×List Nat))(unroll:List (Nat×Nat×Nat))(ov:List (Nat×OvF))(cut:List (Nat×Nat×Nat):=[]) :Hint where
 eqt:=look1 eqt
 norm:=fun f w rid=>match look2 norm f w with | some l=>look1 l rid | none=>none
 call:=fun f w rid idx=>match look2 call f w with | some l=>look2 l rid idx | none=>none
 own:=fun f w=>match look2 own f w with | some l=>l | none=>[]
 unroll:=fun f _ rid=>match look2 unroll f rid with | some n=>n | none=>0
 isOv:=fun f=>(look1 ov f).isSome
 ov:=fun c f l=>(look1 ov f).bind fun g=>g.run c l
 mono:=fun c c' h f vs v hv=>by
  obtain ⟨g,h1,h2⟩:=Option.bind_eq_some_iff.1 hv
  rw [h1]
  exact g.mono c c' h vs v h2
 cut:=fun f _ rid idx=>cut.any fun x=>x.1==f &&x.2.1==rid &&x.2.2==idx
end Go.Proofs.Ytpfploolkmcalaa.VM
end
section
namespace Go.Proofs.Ytpfploolkmcalaa.VM
set_option linter.unusedSimpArgs false
open Go AM
set_option linter.unusedSectionVars false
set_option linter.unusedVariables false
abbrev Res :=V×St
abbrev Tab :=List (List Stp×(Env→St→Option Res))
def eqS :Stp→Stp→Bool
 | .fst, .fst=>true
 | .snd, .snd=>true
 | .yes, .yes=>true
 | .no, .no=>true
 | .blk, .blk=>true
 | .lp, .lp=>true
 | _,_=>false
def eqP :List Stp→List Stp→Bool
 | [],[]=>true
 | a::p,b::q=>match eqS a b with | true=>eqP p q | false=>false
 | _,_=>false
theorem eqS_eq :∀{a b:Stp},eqS a b=true→a=b:=by intro a b; cases a <;>cases b <;>simp [eqS]
theorem eqP_eq :∀{p q:List Stp},eqP p q=true→p=q
 | [],[],_=>rfl
 | a::p,b::q,h=>by
  rw [eqP] at h
  split at h
  ·rename_i h1
   rw [eqS_eq h1,eqP_eq h]
  ·cases h
 | [],_::_,h=>nomatch h
 | _::_,[],h=>nomatch h
def lookP :Tab→List Stp→Option (Env→St→Option Res)
 | [],_=>none
 | (q,J)::T,p=>match eqP q p with | true=>some J | false=>lookP T p
section
variable (P:Program) (H:Hint)
noncomputable def codeT(f w nt:Nat)(T:Tab) :List Stp→(Ex→Env→St→Option Res)→Env→St→Code→Option Res
 | p,K,e,st, .seq a b=>codeT f w nt T (.fst::p) (seqV (fun e st=>match lookP T (.snd::p) with
   | some J=>J (nrm H f w b e st).1 (nrm H f w b e st).2
   | none=>codeT f w nt T (.snd::p) K (nrm H f w b e st).1 (nrm H f w b e st).2 b) K) e st a
 | p,K,e,st, .cond c a b=>match c with
  | .tmp t=>match e.get t with
   | .t x=>match x with
    | .bool v=>match v with
     | true=>codeT f w nt T (.yes::p) K (nrm H f w a ((t, .t (.bool true))::e) st).1 (nrm H f w a ((t, .t (.bool true))::e) st).2 a
     | false=>codeT f w nt T (.no::p) K (nrm H f w b ((t, .t (.bool false))::e) st).1 (nrm H f w b ((t, .t (.bool false))::e) st).2 b
    | _=>none
   | _=>none
  | .const (.bool v)=>match v with
   | true=>codeT f w nt T (.yes::p) K (nrm H f w a e st).1 (nrm H f w a e st).2 a
   | false=>codeT f w nt T (.no::p) K (nrm H f w b e st).1 (nrm H f w b e st).2 b
  | _=>none
 | p,K,e,st, .block id b=>codeT f w nt T (.blk::p) (blockV id K) e st b
 | p,K,e,st, .scope b=>codeT f w nt T (.blk::p) K e st b
 | p,K,e,st, .loop b=>match lookP T p with
  | some J=>J e st
  | none=>codeV P H (vrun P H) f w nt Res K e st (.loop b)
 | _,K,e,st, .skip=>K .normal e st
 | _,K,e,st, .label _=>K .normal e st
 | _,K,e,st, .exit id=>K (.exit id) e st
 | _,K,e,st, .ret=>K .ret e st
 | _,K,e,st, .region rid ops draw=>codeV P H (vrun P H) f w nt Res K e st (.region rid ops draw)
 | _,K,e,st,c=>codeV P H (vrun P H) f w nt Res K e st c
noncomputable def placesT(f w:Nat)(fn:Func)(nt:Nat) :List (List Stp)→Tab
 | []=>[]
 | p::ps=>(p,fun e st=>atV P H f w fn nt p.reverse e st)::placesT f w fn nt ps
theorem lookP_places{f w:Nat}{fn:Func}{nt:Nat}{J:Env→St→Option Res}{p:List Stp} :∀{ps:List (List Stp)},lookP (placesT P H f w fn nt ps) p=some J→J=fun e st=>atV P H f w fn nt p.reverse e st
 | [],h=>nomatch h
 | q::ps,h=>by
  rw [placesT,lookP] at h
  split at h
  ·rename_i h1
   cases h
   rw [eqP_eq h1]
  ·exact lookP_places h
theorem codeT_ok{f w:Nat}{fn:Func}{nt:Nat}(ps:List (List Stp))(c:Code) :∀(p:List Stp) (K:Ex→Env→St→Option Res) (e:Env) (st:St),
  (∀q,ctxV P H f w nt (p.reverse++q) (bodyOf fn) (resKV P fn (H.own f w))=ctxV P H f w nt q c K)→(∀q,nav (p.reverse++q) (bodyOf fn)=nav q c)→
  codeT P H f w nt (placesT P H f w fn nt ps) p K e st c=codeV P H (vrun P H) f w nt Res K e st c:=by
 have leaf:∀(c:Code) (p:List Stp) (K:Ex→Env→St→Option Res) (J:Env→St→Option Res),(∀q,ctxV P H f w nt (p.reverse++q) (bodyOf fn) (resKV P fn (H.own f w))=ctxV P H f w nt q c K)→(∀q,nav (p.reverse++q) (bodyOf fn)=nav q c)→
   lookP (placesT P H f w fn nt ps) p=some J→∀e st,J e st=codeV P H (vrun P H) f w nt Res K e st c:=by
  intro c p K J h1 h2 h e st
  rw [lookP_places P H h]
  unfold atV
  have h1:=h1 []
  have h2:=h2 []
  rw [List.append_nil] at h1 h2
  rw [h1,h2]
  rfl
 induction c with
 | seq a b iha ihb=>
  intro p K e st h1 h2
  have hb1:∀q,ctxV P H f w nt ((Stp.snd::p).reverse++q) (bodyOf fn) (resKV P fn (H.own f w))=ctxV P H f w nt q b K:=fun q=>by
   rw [List.reverse_cons,List.append_assoc]; exact h1 _
  have hb2:∀q,nav ((Stp.snd::p).reverse++q) (bodyOf fn)=nav q b:=fun q=>by rw [List.reverse_cons,List.append_assoc]; exact h2 _
  have hk:(fun e st=>match lookP (placesT P H f w fn nt ps) (.snd::p) with
   | some J=>J (nrm H f w b e st).1 (nrm H f w b e st).2
   | none=>codeT P H f w nt (placesT P H f w fn nt ps) (.snd::p) K (nrm H f w b e st).1 (nrm H f w b e st).2 b)=fun e' st'=>normE H f w b e' st' fun e' st'=>codeV P H (vrun P H) f w nt Res K e' st' b:=by
   funext e st
   split
   ·rename_i J hJ
    exact leaf b _ K J hb1 hb2 hJ _ _
   ·exact ihb _ K _ _ hb1 hb2
  unfold codeT codeV
  rw [hk]
  exact iha _ _ e st (fun q=>by rw [List.reverse_cons,List.append_assoc]; exact h1 _) (fun q=>by rw [List.reverse_cons,List.append_assoc]; exact h2 _)
 | cond x a b iha ihb=>
  intro p K e st h1 h2
  have ha:∀e st,codeT P H f w nt (placesT P H f w fn nt ps) (.yes::p) K e st a=codeV P H (vrun P H) f w nt Res K e st a:=fun e st=>
   iha _ K e st (fun q=>by rw [List.reverse_cons,List.append_assoc]; exact h1 _) (fun q=>by rw [List.reverse_cons,List.append_assoc]; exact h2 _)
  have hb:∀e st,codeT P H f w nt (placesT P H f w fn nt ps) (.no::p) K e st b=codeV P H (vrun P H) f w nt Res K e st b:=fun e st=>
   ihb _ K e st (fun q=>by rw [List.reverse_cons,List.append_assoc]; exact h1 _) (fun q=>by rw [List.reverse_cons,List.append_assoc]; exact h2 _)
  unfold codeT codeV
  simp only [ha,hb]
  rfl
 | block id b ih=>
  intro p K e st h1 h2
  unfold codeT codeV
  exact ih _ _ e st (fun q=>by rw [List.reverse_cons,List.append_assoc]; exact h1 _) (fun q=>by rw [List.reverse_cons,List.append_assoc]; exact h2 _)
 | scope b ih=>
  intro p K e st h1 h2
  unfold codeT codeV
  exact ih _ _ e st (fun q=>by rw [List.reverse_cons,List.append_assoc]; exact h1 _) (fun q=>by rw [List.reverse_cons,List.append_assoc]; exact h2 _)
 | loop b ih=>
  intro p K e st h1 h2
  unfold codeT
  split
  ·rename_i J hJ
   exact leaf _ p K J h1 h2 hJ e st
  ·rfl
 | skip=>intros; rfl
 | label=>intros; rfl
 | exit=>intros; rfl
 | ret=>intros; rfl
 | region=>intros; rfl
 | rangeFunc=>intros; rfl
 | goto=>intros; rfl
 | refuse=>intros; rfl
theorem call_eq {f w : Nat} {fn : Func} {nt : Nat} {T : Tab} (ps : List (List Stp)) (hT : T = placesT P H f w fn nt ps) (args : List V) (h : St) (hf : P.funcs[f]? = some fn) (hc : fn.body.isSome = true) (hn : (fn.name == "runtime.NumGoroutine") = false) (ho : H.isOv f = false) (hnt : max args.length fn.ntmps = nt) (hr : noRows h.blks = true := by exact rfl) :
  vrun P H f w args h=codeT P H f w nt T [] (resKV P fn (H.own f w)) (nrm H f w (bodyOf fn) (envV args 0) h).1 (nrm H f w (bodyOf fn) (envV args 0) h).2 (bodyOf fn):=by
 obtain ⟨c,hc⟩:=Option.isSome_iff_exists.1 hc
 have hb:bodyOf fn=c:=by unfold bodyOf; rw [hc]
 subst hT
 rw [vrun_eq P H hf hc hn ho args h hr,hnt,codeT_ok P H ps (bodyOf fn) [] _ _ _ (fun q=>rfl) (fun q=>rfl),hb]
def okP :List Stp→Code→Bool
 | [],_=>true
 | .fst::p, .seq a _=>okP p a
 | .snd::p, .seq _ b=>okP p b
 | .yes::p, .cond _ a _=>okP p a
 | .no::p, .cond _ _ b=>okP p b
 | .blk::p, .block _ b=>okP p b
 | .blk::p, .scope b=>okP p b
 | .lp::p, .loop b=>okP p b
 | _,_=>false
theorem nav_app :∀(p q:List Stp) (c:Code),okP p c=true→nav (p++q) c=nav q (nav p c)
 | [],q,c,h=>by cases c <;>rfl
 | s::p,q,c,h=>by cases s <;>cases c <;>first | exact nav_app p q _ h | (cases h)
theorem ctx_app{f w nt:Nat} :∀(p q:List Stp) (c:Code) (K:Ex→Env→St→Option Res),okP p c=true→ctxV P H f w nt (p++q) c K=ctxV P H f w nt q (nav p c) (ctxV P H f w nt p c K)
 | [],q,c,K,h=>by cases c <;>rfl
 | s::p,q,c,K,h=>by cases s <;>cases c <;>first | exact ctx_app p q _ _ h | (cases h)
theorem okP_snoc :∀(p q:List Stp) (c:Code),okP p c=true→okP q (nav p c)=true→okP (p++q) c=true
 | [],q,c,h,h2=>by cases c <;>exact h2
 | s::p,q,c,h,h2=>by cases s <;>cases c <;>first | exact okP_snoc p q _ h h2 | (cases h)
noncomputable def ctxT(f w nt:Nat)(T:Tab) :List Stp→List Stp→Code→(Ex→Env→St→Option Res)→Ex→Env→St→Option Res
 | _,[],_,K=>K
 | r, .fst::p, .seq a b,K=>ctxT f w nt T (.fst::r) p a (seqV (fun e st=>match lookP T (.snd::r) with
   | some J=>J (nrm H f w b e st).1 (nrm H f w b e st).2
   | none=>codeT P H f w nt T (.snd::r) K (nrm H f w b e st).1 (nrm H f w b e st).2 b) K)
 | r, .snd::p, .seq _ b,K=>ctxT f w nt T (.snd::r) p b K
 | r, .yes::p, .cond _ a _,K=>ctxT f w nt T (.yes::r) p a K
 | r, .no::p, .cond _ _ b,K=>ctxT f w nt T (.no::r) p b K
 | r, .blk::p, .block id b,K=>ctxT f w nt T (.blk::r) p b (blockV id K)
 | r, .blk::p, .scope b,K=>ctxT f w nt T (.blk::r) p b K
 | r, .lp::p, .loop b,K=>ctxT f w nt T (.lp::r) p b (seqV (fun e st=>match lookP T r with
   | some J=>J (nrm H f w b e st).1 (nrm H f w b e st).2
   | none=>codeV P H (vrun P H) f w nt Res K (nrm H f w b e st).1 (nrm H f w b e st).2 (.loop b)) K)
 | _,_,_,K=>K
theorem ctxT_ok{f w:Nat}{fn:Func}{nt:Nat}(ps:List (List Stp)) :∀(q r:List Stp) (c:Code) (K:Ex→Env→St→Option Res),okP r.reverse (bodyOf fn)=true→okP q c=true→nav r.reverse (bodyOf fn)=c→ctxV P H f w nt r.reverse (bodyOf fn) (resKV P fn (H.own f w))=K→
  ctxT P H f w nt (placesT P H f w fn nt ps) r q c K=ctxV P H f w nt q c K
 | [],r,c,K,_,_,_,_=>by cases c <;>rfl
 | s::q,r,c,K,h0,hq,h1,h2=>by
  have ext:∀(s:Stp) (d:Code) (K':Ex→Env→St→Option Res),okP [s] c=true→nav [s] c=d→ctxV P H f w nt [s] c K=K'→
    okP (s::r).reverse (bodyOf fn)=true∧nav (s::r).reverse (bodyOf fn)=d∧ctxV P H f w nt (s::r).reverse (bodyOf fn) (resKV P fn (H.own f w))=K':=by
   intro s d K' g1 g2 g3
   rw [List.reverse_cons]
   refine ⟨okP_snoc _ _ _ h0 (by rw [h1]; exact g1), ?_, ?_⟩
   ·rw [nav_app _ _ _ h0,h1,g2]
   ·rw [ctx_app P H _ _ _ _ h0,h1,h2,g3]
  have ct:∀(r:List Stp) (c:Code) (K:Ex→Env→St→Option Res) (e:Env) (st:St),okP r.reverse (bodyOf fn)=true→nav r.reverse (bodyOf fn)=c→ctxV P H f w nt r.reverse (bodyOf fn) (resKV P fn (H.own f w))=K→
    codeT P H f w nt (placesT P H f w fn nt ps) r K e st c=codeV P H (vrun P H) f w nt Res K e st c:=by
   intro r c K e st g0 g1 g2
   exact codeT_ok P H ps c r K e st (fun q=>by rw [ctx_app P H _ _ _ _ g0,g1,g2]) (fun q=>by rw [nav_app _ _ _ g0,g1])
  have lf:∀(r:List Stp) (c:Code) (K:Ex→Env→St→Option Res) (J:Env→St→Option Res),nav r.reverse (bodyOf fn)=c→ctxV P H f w nt r.reverse (bodyOf fn) (resKV P fn (H.own f w))=K→lookP (placesT P H f w fn nt ps) r=some J→
    ∀e st,J e st=codeV P H (vrun P H) f w nt Res K e st c:=by
   intro r c K J g1 g2 hJ e st
   rw [lookP_places P H hJ]
   unfold atV
   rw [g1,g2]
  cases s <;>cases c <;>first
   | (cases hq; done)
   | skip
  ·rename_i a b
   have hk:(fun e st=>match lookP (placesT P H f w fn nt ps) (.snd::r) with
    | some J=>J (nrm H f w b e st).1 (nrm H f w b e st).2
    | none=>codeT P H f w nt (placesT P H f w fn nt ps) (.snd::r) K (nrm H f w b e st).1 (nrm H f w b e st).2 b)=fun e' st'=>normE H f w b e' st' fun e' st'=>codeV P H (vrun P H) f w nt Res K e' st' b:=by
    obtain ⟨g0,g1,g2⟩:=ext .snd b K rfl rfl rfl
    funext e st
    split
    ·rename_i J hJ
     exact lf _ b K J g1 g2 hJ _ _
    ·exact ct _ b K _ _ g0 g1 g2
   unfold ctxT
   rw [hk]
   obtain ⟨g0,g1,g2⟩:=ext .fst a _ rfl rfl rfl
   exact ctxT_ok ps q _ a _ g0 hq g1 g2
  ·obtain ⟨g0,g1,g2⟩:=ext .snd _ _ rfl rfl rfl
   exact ctxT_ok ps q _ _ _ g0 hq g1 g2
  ·obtain ⟨g0,g1,g2⟩:=ext .yes _ _ rfl rfl rfl
   exact ctxT_ok ps q _ _ _ g0 hq g1 g2
  ·obtain ⟨g0,g1,g2⟩:=ext .no _ _ rfl rfl rfl
   exact ctxT_ok ps q _ _ _ g0 hq g1 g2
  ·obtain ⟨g0,g1,g2⟩:=ext .blk _ _ rfl rfl rfl
   exact ctxT_ok ps q _ _ _ g0 hq g1 g2
  ·obtain ⟨g0,g1,g2⟩:=ext .blk _ _ rfl rfl rfl
   exact ctxT_ok ps q _ _ _ g0 hq g1 g2
  ·rename_i b
   have hk:(fun e st=>match lookP (placesT P H f w fn nt ps) r with
    | some J=>J (nrm H f w b e st).1 (nrm H f w b e st).2
    | none=>codeV P H (vrun P H) f w nt Res K (nrm H f w b e st).1 (nrm H f w b e st).2 (.loop b))=fun e' st'=>normE H f w b e' st' fun e' st'=>codeV P H (vrun P H) f w nt Res K e' st' (.loop b):=by
    funext e st
    split
    ·rename_i J hJ
     exact lf _ _ K J h1 h2 hJ _ _
    ·rfl
   unfold ctxT
   rw [hk]
   obtain ⟨g0,g1,g2⟩:=ext .lp b _ rfl rfl rfl
   exact ctxT_ok ps q _ b _ g0 hq g1 g2
theorem join_eq{f w:Nat}{fn:Func}{nt:Nat}{T:Tab}(ps:List (List Stp))(hT:T=placesT P H f w fn nt ps)(p:List Stp)(e:Env)(h:St)(h0:okP p.reverse (bodyOf fn)=true) :
  atV P H f w fn nt p.reverse e h=codeT P H f w nt T p (ctxT P H f w nt T [] p.reverse (bodyOf fn) (resKV P fn (H.own f w))) e h (nav p.reverse (bodyOf fn)):=by
 subst hT
 rw [ctxT_ok P H ps p.reverse [] (bodyOf fn) _ rfl h0 (by cases bodyOf fn <;>rfl) (by cases bodyOf fn <;>rfl)]
 rw [codeT_ok P H ps _ p _ _ _ (fun q=>ctx_app P H _ _ _ _ h0) (fun q=>nav_app _ _ _ h0)]
 rfl
theorem round_eq{f w:Nat}{fn:Func}{nt:Nat}{b:Code}{T:Tab}(ps:List (List Stp))(hT:T=placesT P H f w fn nt ps)(p:List Stp)(e:Env)(h:St)(hb:nav p.reverse (bodyOf fn)= .loop b)(hr:rounds H f w b=0)(h0:okP p.reverse (bodyOf fn)=true) :
  atV P H f w fn nt p.reverse e h=codeT P H f w nt T (.lp::p) (ctxT P H f w nt T [] (.lp::p).reverse (bodyOf fn) (resKV P fn (H.own f w))) e h b:=by
 subst hT
 have h3:okP (.lp::p).reverse (bodyOf fn)=true:=by rw [List.reverse_cons]; exact okP_snoc _ _ _ h0 (by rw [hb]; cases b <;>rfl)
 have h4:nav (.lp::p).reverse (bodyOf fn)=b:=by rw [List.reverse_cons,nav_app _ _ _ h0,hb]; cases b <;>rfl
 rw [ctxT_ok P H ps (.lp::p).reverse [] (bodyOf fn) _ rfl h3 (by cases bodyOf fn <;>rfl) (by cases bodyOf fn <;>rfl)]
 rw [codeT_ok P H ps b (.lp::p) _ e h (fun q=>by rw [ctx_app P H _ _ _ _ h3,h4]) (fun q=>by rw [nav_app _ _ _ h3,h4])]
 rw [atV_loop P H hb hr]
 congr 1
 rw [List.reverse_cons,ctx_app P H _ _ _ _ h0,hb]
 cases b <;>rfl
end
end Go.Proofs.Ytpfploolkmcalaa.VM
end
section
namespace Go.Proofs.Ytpfploolkmcalaa.VM
set_option linter.unusedSimpArgs false
open Go AM Go.RowKit
set_option linter.unusedSectionVars false
set_option linter.unusedVariables false
def amHint(H:Hint)(O:AM.Hint) :AM.Hint:={O with eqt:=H.eqt,keep:=fun _ _=>none}
theorem start_Sm(w:World) :Sm (fun _=>False) (fun _=>False) (fun _=>none) ⟨[],[]⟩ (AM.start w) where
 ok:=start_ok w
 fLt:=fun r h=>by rcases h with h | h <;>exact h.elim
 blk:=fun id b h=>by cases h
 inj:=fun id1 b1 id2 b2 r k1 k2 h=>by cases h
 apart:=fun id b r k h=>by cases h
 gUsed:=fun id g h=>by cases h
abbrev fz0(w:World) :Fz:=fz (fun _=>False) (AM.start w)
abbrev G0 :GM:=fun _=>none
section
variable {P:Program} {H:Hint} {ov:AM.Hint}
theorem run_law(hq:EqOK P H.eqt)(hov:OvOK P (amHint H ov))(hv:OvV P H (amHint H ov))(hm:P.follows .mixedOrders=true){f:FuncId}{args:Array Value}{vs:List V}{w:World}(hr:VRs (fz0 w) G0 vs args.toList)(ha:∀v∈args.toList,flatB w.heap.size v=true){b:Bool}{st:St}
  (he:vrun P H f 0 vs ⟨[],[]⟩=some (.t (.bool b),st)):
  Calls P f args w fun e w'=>e= .returned (.bool b)∧Below w.heap.size w w':=by
 obtain ⟨F,G,u,h',h1,_,h3⟩:=vrun_ok P (HA:=amHint H ov) rfl (fun _ _=>rfl) hv f 0 vs ⟨[],[]⟩ (.t (.bool b)) st he (fun _=>False) (fun _=>False) G0 (AM.start w) args.toList (start_Sm w) (fun id g h=>by cases h) hr
 have hu:u= .bool b:=by
  cases vr_t h3 with
  | one hr=>cases hr; rfl
 subst hu
 exact AM.run_law (H:=amHint H ov) hq hov hm ha h1
end
end Go.Proofs.Ytpfploolkmcalaa.VM
end
section
namespace Go.Proofs.Ytpfploolkmcalaa.VM
set_option linter.unusedVariables false
open Go AM
section
variable {R:Type}
theorem ct{A:Type}(a b:A) :(bif true then a else b)=a:=(fun (_:Unit)=>rfl) ()
theorem cf{A:Type}(a b:A) :(bif false then a else b)=b:=(fun (_:Unit)=>rfl) ()
theorem callK_some{R:Type}(v:V)(st:St)(K:V→Bs→Option R) :callK (some (v,st)) K=K v st.blks:=(fun (_:Unit)=>rfl) ()
theorem asI_int{R:Type}(k:IntKind)(n:Int)(K:Int→Option R) :asI k (.int k n) K=K n:=by unfold asI; simp
theorem asT_t{R:Type}(x:T)(K:T→Option R) :asT (.t x) K=K x:=(fun (_:Unit)=>rfl) ()
theorem asB_bool(b:Bool)(K:Bool→Option R) :asB (.bool b) K=K b:=(fun (_:Unit)=>rfl) ()
theorem asS_str(s:ByteArray)(K:ByteArray→Option R) :asS (.str s) K=K s:=(fun (_:Unit)=>rfl) ()
theorem asL_list(s:Nat)(nn:Bool)(l:List T)(K:Bool→List T→Option R) :asL s (.list s nn l) K=K nn l:=by unfold asL; simp
theorem asA_agg(cs:List T)(K:List T→Option R) :asA (.agg cs) K=K cs:=(fun (_:Unit)=>rfl) ()
theorem consT_cons(x:T)(l:List T)(K:T→List T→Option R) :consT (x::l) K=K x l:=(fun (_:Unit)=>rfl) ()
theorem endT_nil(K:Option R) :endT [] K=K:=(fun (_:Unit)=>rfl) ()
theorem asTup_tup(l:List V)(K:List V→Option R) :asTup (.tup l) K=K l:=(fun (_:Unit)=>rfl) ()
theorem consV_cons(x:V)(l:List V)(K:V→List V→Option R) :consV (x::l) K=K x l:=(fun (_:Unit)=>rfl) ()
theorem endV_nil(K:Option R) :endV [] K=K:=(fun (_:Unit)=>rfl) ()
theorem endB_nil{R:Type}(K:Option R) :endB [] K=K:=(fun (_:Unit)=>rfl) ()
theorem consB_cons(i:Nat)(b:Blk)(bs:Bs)(K:Blk→Bs→Option R) :consB i ((i,b)::bs) K=K b bs:=by unfold consB; simp
theorem asArr_arr(s:Nat)(nn:Bool)(l:List T)(K:Bool→List T→Option R) :asArr s (.arr true s nn l) K=K nn l:=by unfold asArr; simp
theorem asMp_map(l:List (T×T))(K:List (T×T)→Option R) :asMp (.map l) K=K l:=(fun (_:Unit)=>rfl) ()
theorem asVar_var(l:List V)(K:List V→Option R) :asVar (.var l) K=K l:=(fun (_:Unit)=>rfl) ()
theorem isBuf_buf(i:Nat)(K:Option R) :isBuf i (.buf i) K=K:=by unfold isBuf; simp
theorem bNT :(!true)=false:=by exact (fun (_:Unit)=>rfl) ()
theorem bNF :(!false)=true:=by exact (fun (_:Unit)=>rfl) ()
theorem bTA(b:Bool) :(true &&b)=b:=by cases b <;>rfl
theorem bFA(b:Bool) :(false &&b)=false:=by cases b <;>rfl
theorem bAF(b:Bool) :(b &&false)=false:=by cases b <;>rfl
theorem bOT(b:Bool) :(b || true)=true:=by cases b <;>rfl
theorem needC_t{R:Type}(K:Unit→Option R) :needC true K=K ():=(fun (_:Unit)=>rfl) ()
theorem needC_true{R:Type}{b:Bool}(h:b=true)(K:Unit→Option R) :needC b K=K ():=by subst h; rfl
theorem getT_at{l:List T}{i:Nat}{x:T}(h:l[i]? =some x)(K:T→Option R) :getT l i K=K x:=by unfold getT; rw [h]
theorem setT_at{l:List T}{i:Nat}(x:T)(h:i<l.length)(K:List T→Option R) :setT l i x K=K (l.set i x):=by unfold setT; rw [decide_eq_true h,needC_t]
theorem wrap64{n:Int}(h1: -9223372036854775808≤n)(h2:n<9223372036854775808) :IntKind.i64.wrap n=n:=by
 rw [IntKind.wrap_i64]; omega
end
end Go.Proofs.Ytpfploolkmcalaa.VM
end
section
namespace Go.Proofs.Ytpfploolkmcalaa.VM
set_option linter.unusedVariables false
set_option linter.unusedSimpArgs false
set_option linter.unusedSectionVars false
open Go AM
inductive Ty1 where
 | int (k:IntKind) | bool | str | list (es:List Ty1) (ag:Bool)
def packT(ag:Bool)(ts:List T) :T:=bif ag then .agg ts else match ts with | [x]=>x | _=> .agg []
mutual
def fit1 :Ty1→T→Prop
 | .int k,x=>∃n,x= .int k n∧(Lit.int k n).wf=true
 | .bool,x=>∃b,x= .bool b
 | .str,x=>∃s,x= .str s∧s.size≤maxLen
 | .list es ag,x=>∃nn l,x= .list es.length nn l∧l.length≤maxLen∧(nn=false→l=[])∧∀y∈l,∃ts,y=packT ag ts∧fits es ts
def fits :List Ty1→List T→Prop
 | [],ts=>ts=[]
 | e::es,ts=>∃t r,ts=t::r∧fit1 e t∧fits es r
end
def FitT(es:List Ty1)(ag:Bool)(x:T) :Prop:=∃ts,x=packT ag ts∧fits es ts
def tysFs(P:Program)(go:TypeId→Option (List Ty1×Bool)) :List Field→Nat→Option (List Ty1)
 | [],_=>some []
 | f::fs,off=>match go f.type with
  | some (es,_)=>bif decide (f.offset=off) &&decide (P.cellsOf f.type=es.length) then (tysFs P go fs (off+es.length)).map (es++ ·) else none
  | none=>none
def tys(P:Program) :Nat→TypeId→Option (List Ty1×Bool)
 | 0,_=>none
 | n+1,t=>match P.underlying t with
  | some (.int k)=>some ([.int k],false)
  | some .bool=>some ([.bool],false)
  | some .string=>some ([.str],false)
  | some (.slice e)=>match tys P n e with
   | some (es,ag)=>bif decide (0<es.length) &&decide (P.cellsOf e=es.length) &&(ag || decide (es.length=1)) then some ([.list es ag],false) else none
   | none=>none
  | some (.struct fs)=>match tysFs P (tys P n) fs.toList 0 with
   | some es=>bif decide (P.cellsOf t=es.length) then some (es,true) else none
   | none=>none
  | _=>none
theorem fit1_one{e:Ty1}{x:T}(h:fit1 e x) :x.cells=[x]:=by
 cases e with
 | int k=>unfold fit1 at h; obtain ⟨n,rfl,_⟩:=h; rfl
 | bool=>unfold fit1 at h; obtain ⟨b,rfl⟩:=h; rfl
 | str=>unfold fit1 at h; obtain ⟨s,rfl,_⟩:=h; rfl
 | list es ag=>unfold fit1 at h; obtain ⟨nn,l,rfl,_⟩:=h; rfl
theorem fits_length :∀{es:List Ty1} {ts:List T},fits es ts→ts.length=es.length
 | [],ts,h=>by unfold fits at h; subst h; rfl
 | e::es,ts,h=>by
  unfold fits at h
  obtain ⟨t,r,rfl,_,hr⟩:=h
  simp [fits_length hr]
mutual
def wt :T→Nat
 | .str s=>s.size+1
 | .list _ _ l=>wts l+1
 | .agg l=>wts l+1
 | .int _ _=>1
 | .bool _=>1
def wts :List T→Nat
 | []=>0
 | x::l=>wt x+wts l
end
theorem wts_append :∀a b:List T,wts (a++b)=wts a+wts b
 | [],b=>by rw [List.nil_append]; unfold wts; cases b <;>simp [wts]
 | x::a,b=>by
  rw [List.cons_append]
  have e1:∀l,wts (x::l)=wt x+wts l:=fun l=>by rw [wts]
  rw [e1,e1,wts_append a b]; omega
theorem fits_append :∀{es es2:List Ty1} {ts ts2:List T},fits es ts→fits es2 ts2→fits (es++es2) (ts++ts2)
 | [],es2,ts,ts2,h,h2=>by unfold fits at h; subst h; exact h2
 | e::es,es2,ts,ts2,h,h2=>by
  unfold fits at h
  obtain ⟨t,r,rfl,h3,hr⟩:=h
  rw [List.cons_append]
  unfold fits
  exact ⟨t,r++ts2,rfl,h3,fits_append hr h2⟩
theorem pack_cells{es:List Ty1}{ag:Bool}{ts:List T}(h:fits es ts)(hg:(ag || decide (es.length=1))=true) :(packT ag ts).cells=ts:=by
 unfold packT
 cases ag with
 | true=>rfl
 | false=>
  have h1:es.length=1:=by simpa using hg
  have h2:=fits_length h
  match es,ts,h1,h2,h with
  | [e],[t],_,_,h=>
   unfold fits at h
   obtain ⟨t',r,e1,h3,_⟩:=h
   cases e1
   exact fit1_one h3
section
variable {H:Type} {enc:TypeId×Value→H} {P:Program} {w:World}
def CellsOk(w:World)(es:List Ty1)(cs:List Value)(ag:Bool)(b:Nat) :Prop:=
 ∃ts,fits es ts∧All2 (fun t v=>∃v',oldV w.heap.size v=some v'∧SR (fz0 w) t v') ts cs∧wts ts≤b∧wt (packT ag ts)≤b
def SlIn(B:Nat)(cs:List Value) :Prop:=0<B∨∀a n c,Value.slice (some a) n c∈cs→a.block<B
theorem cell_lt{w:World}{a:Addr}{v:Value}(hc:w.cell? a=some v) :a.block<w.heap.size:=by
 unfold World.cell? at hc
 rcases Nat.lt_or_ge a.block w.heap.size with h | h
 ·exact h
 ·rw [Array.getElem?_eq_none h] at hc; cases hc
theorem CellsOk.one{e:Ty1}{x:T}{v v':Value}{b:Nat}(h:fit1 e x)(h1:oldV w.heap.size v=some v')(h2:SR (fz0 w) x v')(h3:wt x≤b) :CellsOk w [e] [v] false b:=
 ⟨[x],by unfold fits; exact ⟨x,[],rfl,h,by unfold fits; rfl⟩, .cons ⟨v',h1,h2⟩ .nil,by simp only [wts]; omega,h3⟩
theorem wts_le :∀{l:List T} {ds:List (DataW H)},l.length=ds.length→(∀(i:Nat) (x:T) (d:DataW H),l[i]? =some x→ds[i]? =some d→wt x≤Rows.uptoBulk d)→wts l≤Rows.uptoBulkAll ds
 | [],ds,_,_=>by unfold wts; omega
 | x::l,[],h,_=>by simp at h
 | x::l,d::ds,h,hw=>by
  have h1:=hw 0 x d rfl rfl
  have h2:=wts_le (l:=l) (ds:=ds) (by simpa using h) (fun i y e hy he=>hw (i+1) y e (by simpa using hy) (by simpa using he))
  rw [wts,Rows.uptoBulkAll]
  omega
theorem struct_cells{n:Nat}(go:TypeId→Option (List Ty1×Bool)){cs:List Value}{xs:List (DataW H×List MemPlace)}{all:List Field}
  (ih:∀t es ag cs x,go t=some (es,ag)→DataW.trod enc P w 0 (fun _=>true) true n t cs=some x→SlIn w.heap.size cs→CellsOk w es cs ag (Rows.uptoBulk x.1))
  (hx:∀(i:Nat) (f:Field),all[i]? =some f→DataW.trod enc P w 0 (fun _=>true) true n f.type ((cs.drop f.offset).take (P.cellsOf f.type))=xs[i]?) (hxl:xs.length=all.length) (hs:SlIn w.heap.size cs):
  ∀(fs:List Field) (i off:Nat) (es:List Ty1),all.drop i=fs→tysFs P go fs off=some es→∃ts,fits es ts∧All2 (fun t v=>∃v',oldV w.heap.size v=some v'∧SR (fz0 w) t v') ts ((cs.drop off).take es.length)∧wts ts≤Rows.uptoBulkAll ((xs.drop i).map (·.1))
 | [],i,off,es,hd,h=>by
  cases h
  exact ⟨[],by unfold fits; rfl,by simpa using All2.nil,by unfold wts; omega⟩
 | f::fs,i,off,es,hd,h=>by
  unfold tysFs at h
  split at h
  ·rename_i e1 ag1 hgo
   cases hc:(decide (f.offset=off) &&decide (P.cellsOf f.type=e1.length)) <;>rw [hc] at h
   ·cases h
   ·simp only [Bool.and_eq_true,decide_eq_true_eq] at hc
    simp only [cond_true,Option.map_eq_some_iff] at h
    obtain ⟨e2,h2,rfl⟩:=h
    have hi:all[i]? =some f:=by
     have:=congrArg (fun l=>l[0]?) hd
     simpa using this
    have hlt:i<all.length:=(List.getElem?_eq_some_iff.1 hi).1
    have hrun:=hx i f hi
    obtain ⟨y,hy⟩:∃y,xs[i]? =some y:=⟨_,List.getElem?_eq_getElem (by omega)⟩
    rw [hy,hc.1,hc.2] at hrun
    obtain ⟨ts1,k1,k2,k3,_⟩:=ih f.type e1 ag1 _ y hgo hrun (by
     rcases hs with h | h
     ·exact .inl h
     ·exact .inr fun a n c hm=>h a n c (List.mem_of_mem_drop (List.mem_of_mem_take hm)))
    have hd':all.drop (i+1)=fs:=by rw [←List.drop_drop,hd]; rfl
    obtain ⟨ts2,k4,k5,k6⟩:=struct_cells go ih hx hxl hs fs (i+1) (off+e1.length) e2 hd' h2
    have hl:((cs.drop off).take e1.length).length=e1.length:=by rw [←k2.length,fits_length k1]
    have e:(cs.drop off).take e1.length++(cs.drop (off+e1.length)).take e2.length=(cs.drop off).take (e1++e2).length:=by
     rw [List.length_append,List.take_add,List.drop_drop]
    refine ⟨ts1++ts2,fits_append k1 k4,by rw [←e]; exact k2.append k5, ?_⟩
    have hdx:xs.drop i=y::xs.drop (i+1):=by
     obtain ⟨g1,g2⟩:=List.getElem?_eq_some_iff.1 hy
     rw [List.drop_eq_getElem_cons g1,g2]
    rw [wts_append,hdx,List.map_cons,Rows.uptoBulkAll]
    omega
  ·cases h
theorem trod_trees :∀(m:Nat) (t:TypeId) (es:List Ty1) (ag:Bool),tys P m t=some (es,ag)→∀(fuel:Nat) (cs:List Value) (x:DataW H×List MemPlace),
  DataW.trod enc P w 0 (fun _=>true) true fuel t cs=some x→SlIn w.heap.size cs→CellsOk w es cs ag (Rows.uptoBulk x.1):=by
 intro m
 induction m with
 | zero=>intro t es ag h; cases h
 | succ m ih=>
  intro t es ag h fuel cs x hx hs
  unfold tys at h
  split at h
  ·rename_i k hu
   cases h
   obtain ⟨n,rfl,rfl,hw⟩:=DataW.trod_int hu hx
   exact CellsOk.one (x:= .int k n) (by unfold fit1; exact ⟨n,rfl,hw⟩) rfl (.int k n) (by unfold wt Rows.uptoBulk; exact Nat.le_refl _)
  ·rename_i hu
   cases h
   obtain ⟨b,rfl,rfl⟩:=DataW.trod_bool hu hx
   exact CellsOk.one (x:= .bool b) (by unfold fit1; exact ⟨b,rfl⟩) rfl (.bool b) (by unfold wt Rows.uptoBulk; exact Nat.le_refl _)
  ·rename_i hu
   cases h
   obtain ⟨s,rfl,rfl,hw⟩:=DataW.trod_string hu hx
   exact CellsOk.one (x:= .str s) (by unfold fit1; exact ⟨s,rfl,hw⟩) rfl (.str s) (by unfold wt Rows.uptoBulk; rw [Array.length_toList]; exact Nat.le_refl _)
  ·rename_i e hu
   split at h
   ·rename_i es1 ag1 hte
    cases hc:(decide (0<es1.length) &&decide (P.cellsOf e=es1.length) &&(ag1 || decide (es1.length=1))) <;>rw [hc] at h
    ·cases h
    ·simp only [Bool.and_eq_true,decide_eq_true_eq] at hc
     obtain ⟨⟨hpos,hcell⟩,hagg⟩:=hc
     cases h
     rcases DataW.trod_slice hu hx with ⟨rfl,rfl⟩ | ⟨a,len,cap,elems,rest,n,rfl,rfl,rfl,_,hl,hm,hlen,hel,hsp,_⟩
     ·exact CellsOk.one (x:= .list es1.length false []) (by unfold fit1; exact ⟨false,[],rfl,by simp,fun _=>rfl,by simp⟩) rfl (.nil _) (by unfold wt wts Rows.uptoBulk; exact Nat.le_refl _)
     ·obtain ⟨hrl,hr⟩:=hsp rfl
      rw [hcell] at hel hr
      have each:∀i,i<cap→∃csi,csi.length=es1.length∧(∀k,k<es1.length→w.cell? (a.add (i*es1.length+k))=csi[k]?)∧∃y,DataW.trod enc P w 0 (fun _=>true) true n e csi=some y∧∀u,elems[i]? =some u→u=y:=by
       intro i hi
       have hb:∃y,(w.cells? 0 (a.add (i*es1.length)) es1.length).bind (DataW.trod enc P w 0 (fun _=>true) true n e)=some y∧∀u,elems[i]? =some u→u=y:=by
        by_cases h1:i<len
        ·exact ⟨elems[i],by rw [hel i h1]; exact List.getElem?_eq_getElem (by omega),fun u hu=>by rw [List.getElem?_eq_getElem (by omega)] at hu; exact (Option.some.inj hu).symm⟩
        ·have:=hr (i - len) (by omega)
         rw [show len+(i - len)=i by omega] at this
         exact ⟨rest[i - len]'(by omega),by rw [this]; exact List.getElem?_eq_getElem (by omega),fun u hu=>by rw [List.getElem?_eq_none (by omega)] at hu; cases hu⟩
       obtain ⟨y,hy,hye⟩:=hb
       rw [Option.bind_eq_some_iff] at hy
       obtain ⟨csi,h1,h2⟩:=hy
       obtain ⟨_,h3,h4⟩:=World.cells?_some h1
       exact ⟨csi,h3,fun k hk=>by rw [←add_add]; exact h4 k hk,y,h2,hye⟩
      by_cases hcap:cap=0
      ·subst hcap
       obtain rfl:len=0:=by omega
       have hn:∃a',oldV w.heap.size (.slice (some a) 0 0)=some (.slice (some a') 0 0)∧a'.block<w.heap.size:=by
        by_cases hlt:a.block<w.heap.size
        ·exact ⟨a,oldV_flat (decide_eq_true hlt),hlt⟩
        ·have h0:0<w.heap.size:=by
          rcases hs with h | h
          ·exact h
          ·exact absurd (h a 0 0 (by simp)) hlt
         refine ⟨⟨0,0,none⟩, ?_,h0⟩
         unfold oldV
         have:flatB w.heap.size (.slice (some a) 0 0)=false:=decide_eq_false hlt
         rw [this]
         rfl
       obtain ⟨a',h1,h2⟩:=hn
       refine CellsOk.one (x:= .list es1.length true []) (by unfold fit1; exact ⟨true,[],rfl,by simp,fun _=>rfl,by simp⟩) h1 ?_ (by unfold wt wts Rows.uptoBulk; omega)
       exact SR.list (l:=[]) (c:=0) (fun _=> .bool false) (.inl ⟨h2,by simp⟩) (by simp) (fun j hj=>by simp at hj) (fun i x j y hx _=>by simp at hx)
      ·have hlt:a.block<w.heap.size:=by
        obtain ⟨csi,h1,h2,_⟩:=each 0 (by omega)
        have h3:=h2 0 hpos
        rw [List.getElem?_eq_getElem (by omega)] at h3
        have:=cell_lt h3
        have hab:(a.add (0*es1.length+0)).block=a.block:=by unfold Addr.add; split <;>rfl
        rwa [hab] at this
       have h0:0<w.heap.size:=by omega
       have tree:∀i,∃ts,i<cap→fits es1 ts∧(∀k y,ts[k]? =some y→∃v v',w.cell? (a.add (i*es1.length+k))=some v∧oldV w.heap.size v=some v'∧SR (fz0 w) y v')∧∀u,elems[i]? =some u→wt (packT ag1 ts)≤Rows.uptoBulk u.1:=by
        intro i
        by_cases hi:i<cap
        ·obtain ⟨csi,h1,h2,y,h3,hye⟩:=each i hi
         obtain ⟨ts,h4,h5,_,hwt⟩:=ih e es1 ag1 hte n csi y h3 (.inl h0)
         refine ⟨ts,fun _=>⟨h4,fun k y hk=> ?_,fun u hu=>by rw [hye u hu]; exact hwt⟩⟩
         obtain ⟨v,hv,v',h6,h7⟩:=h5.get hk
         have hk2:k<ts.length:=(List.getElem?_eq_some_iff.1 hk).1
         have:=fits_length h4
         exact ⟨v,v',by rw [h2 k (by omega)]; exact hv,h6,h7⟩
        ·exact ⟨[],fun h=>absurd h hi⟩
       obtain ⟨g,hg⟩:=Classical.axiomOfChoice tree
       have hll:((List.range len).map fun i=>packT ag1 (g i)).length=len:=by simp
       refine CellsOk.one (x:= .list es1.length true ((List.range len).map fun i=>packT ag1 (g i))) ?_ (oldV_flat (decide_eq_true hlt)) ?_ ?_
       ·unfold fit1
        refine ⟨true,_,rfl,by rw [hll]; omega,(fun h=>by cases h),fun y hy=> ?_⟩
        obtain ⟨i,hi,rfl⟩:=List.mem_map.1 hy
        exact ⟨g i,rfl,(hg i (by have:=List.mem_range.1 hi; omega)).1⟩
       ·have hf:∀j,j<len*es1.length→∃v v',w.cell? (a.add j)=some v∧oldV w.heap.size v=some v':=by
         intro j hj
         have hi:j / es1.length<len:=(Nat.div_lt_iff_lt_mul hpos).2 hj
         obtain ⟨h1,h2,_⟩:=hg (j / es1.length) (by omega)
         have hk:j % es1.length<(g (j / es1.length)).length:=by rw [fits_length h1]; exact Nat.mod_lt _ hpos
         obtain ⟨v,v',h3,h4,_⟩:=h2 (j % es1.length) _ (List.getElem?_eq_getElem hk)
         have e:j / es1.length*es1.length+j % es1.length=j:=by rw [Nat.mul_comm]; exact Nat.div_add_mod _ _
         rw [e] at h3
         exact ⟨v,v',h3,h4⟩
        have hsl:=SR.list (z:=fz0 w) (sz:=es1.length) (l:=(List.range len).map fun i=>packT ag1 (g i)) (a:=a) (c:=cap)
         (fun j=>match w.cell? (a.add j) with | some v=>(oldV w.heap.size v).getD (.bool false) | none=> .bool false)
         (.inl ⟨hlt,by rw [hll]; exact hl⟩)
         (fun x hx=>by
          obtain ⟨i,hi,rfl⟩:=List.mem_map.1 hx
          have h1:=(hg i (by have:=List.mem_range.1 hi; omega)).1
          rw [pack_cells h1 hagg,fits_length h1])
         (fun j hj=>by
          rw [hll] at hj
          obtain ⟨v,v',h1,h2⟩:=hf j hj
          refine ⟨.inl ?_, ?_⟩
          ·have hab:(a.add j).block=a.block:=by unfold Addr.add; split <;>rfl
           rw [hab]; exact hlt
          ·rw [h1]
           dsimp only
           rw [h2]
           exact start_cellV h1 h2)
         (fun i x j y hx hy=>by
          rw [List.getElem?_map,Option.map_eq_some_iff] at hx
          obtain ⟨i',hi',rfl⟩:=hx
          have hi2:i<len:=by have:=(List.getElem?_eq_some_iff.1 hi').1; simpa using this
          have:i'=i:=by
           rw [List.getElem?_range hi2] at hi'
           exact (Option.some.inj hi').symm
          subst this
          obtain ⟨h1,h2,_⟩:=hg i' (by omega)
          rw [pack_cells h1 hagg] at hy
          obtain ⟨v,v',h3,h4,h5⟩:=h2 j y hy
          rw [h3]
          dsimp only
          rw [h4]
          exact h5)
        rw [hll] at hsl
        exact hsl
       ·have hw:wts ((List.range len).map fun i=>packT ag1 (g i))≤Rows.uptoBulkAll (elems.map (·.1)):=by
         refine wts_le (by rw [hll,List.length_map,hlen]) (fun i x d hx hd=> ?_)
         rw [List.getElem?_map,Option.map_eq_some_iff] at hx hd
         obtain ⟨i',hi',rfl⟩:=hx
         obtain ⟨u,hu',rfl⟩:=hd
         have hi2:i<len:=by have:=(List.getElem?_eq_some_iff.1 hi').1; simpa using this
         have:i'=i:=by
          rw [List.getElem?_range hi2] at hi'
          exact (Option.some.inj hi').symm
         subst this
         exact (hg i' (by omega)).2.2 u hu'
        unfold wt Rows.uptoBulk
        omega
   ·cases h
  ·rename_i fs hu
   split at h
   ·rename_i es1 hfs
    cases hc:decide (P.cellsOf t=es1.length) <;>rw [hc] at h
    ·cases h
    ·have hcell:=of_decide_eq_true hc
     cases h
     obtain ⟨xs,n,rfl,rfl,hl,hxl,hf⟩:=DataW.trod_struct hu hx
     obtain ⟨ts,k1,k2,k3⟩:=struct_cells (n:=n) (tys P m) (cs:=cs) (xs:=xs) (all:=fs.toList) (fun t es ag cs x h1 h2 h3=>ih t es ag h1 n cs x h2 h3) (fun i f h=>hf i f (by simpa using h)) (by simpa using hxl) hs fs.toList 0 0 _ rfl hfs
     rw [List.drop_zero,←hcell,←hl,List.take_length] at k2
     rw [List.drop_zero] at k3
     refine ⟨ts,k1,k2, ?_, ?_⟩
     ·unfold Rows.uptoBulk; omega
     ·show wt (.agg ts)≤_
      unfold wt Rows.uptoBulk; omega
   ·cases h
  ·cases h
theorem has_lt{P:Program}{W:World}{base:Nat}{u:TypeId}{a:Addr}{n c:Nat}(h:Cell.okWide P W .any base u (.slice (some a) n c)) :a.block<W.heap.size:=by
 have key:∀e,P.underlying u=some (.slice e)→a.block<W.heap.size:=fun e hu=>slice_block hu (by unfold Value.okWide; rw [hu]; exact h)
 cases hu:P.underlying u with
 | none=>simp [Cell.okWide,Cell.ok,hu] at h
 | some d=>
  cases d with
  | slice e=>exact key e hu
  | _=>simp [Cell.okWide,Cell.ok,hu] at h
theorem okWide_in{P:Program}{W:World}{base:Nat}{t:TypeId}{v:Value}(h:Value.okWide P W .any base t v) :∀a n c,Value.slice (some a) n c∈v.cells.toList→a.block<W.heap.size:=by
 intro a n c hm
 have key:Cell.okWide P W .any base t v→a.block<W.heap.size:=by
  intro h
  cases v with
  | agg cs=>
   exfalso
   unfold Cell.okWide Cell.ok at h
   cases hu:P.underlying t with
   | none=>simp [hu] at h
   | some d=>cases d <;>simp [hu] at h
  | _=>
   simp [Value.cells] at hm
   try (obtain ⟨rfl,rfl,rfl⟩:=hm; exact has_lt h)
 unfold Value.okWide at h
 split at h
 ·obtain ⟨cs,rfl,_,ts,_,_,hc⟩:=h
  obtain ⟨i,hi⟩:=List.getElem?_of_mem hm
  obtain ⟨u,_,h2⟩:=hc i _ (by simpa [Value.cells] using hi)
  exact has_lt h2
 ·obtain ⟨cs,rfl,_,ts,_,_,hc⟩:=h
  obtain ⟨i,hi⟩:=List.getElem?_of_mem hm
  obtain ⟨u,_,h2⟩:=hc i _ (by simpa [Value.cells] using hi)
  exact has_lt h2
 ·exact key h
theorem flat1_of{B:Nat}{v v':Value}{x:T}{z:Fz}(h:oldV B v=some v')(hs:SR z x v')(hin:∀a n c,v= .slice (some a) n c→a.block<B) :flat1 B v=true:=by
 unfold oldV at h
 cases h2:flatB B v <;>rw [h2] at h
 ·simp only [cond_false] at h
  split at h
  ·rename_i a n c
   have:=hin a n c rfl
   exact decide_eq_true this
  ·cases h
 ·cases h
  cases v with
  | agg cs=>cases hs
  | _=>exact h2
theorem data_start{m:Nat}{t:TypeId}{es:List Ty1}{ag:Bool}{v:Value}{d:DataW H}{p:List MemPlace}{base:Nat}(hty:tys P m t=some (es,ag))(hv:Value.okWide P w .any base t v)
  (h:DataW.Trod enc P w 0 (fun _=>true) true t v d p):∃x,FitT es ag x∧VR (fz0 w) G0 (.t x) v∧flatB w.heap.size v=true∧wt x≤Rows.uptoBulk d:=by
 obtain ⟨fuel,h⟩:=h
 have hin:=okWide_in hv
 obtain ⟨ts,h1,h2,_,hwt⟩:=trod_trees (w:=w) m t es ag hty fuel v.cells.toList _ h (.inr hin)
 have hflat:∀u∈v.cells.toList,flat1 w.heap.size u=true:=by
  intro u hu
  obtain ⟨i,hi⟩:=List.getElem?_of_mem hu
  have hil:i<ts.length:=by rw [h2.length]; exact (List.getElem?_eq_some_iff.1 hi).1
  obtain ⟨u',hu',v',h3,h4⟩:=h2.get (List.getElem?_eq_getElem hil)
  rw [hi] at hu'
  cases hu'
  exact flat1_of h3 h4 (fun a n c he=>hin a n c (by rw [←he]; exact hu))
 have hsr:SRs (fz0 w) ts v.cells.toList:=by
  refine All2.of_get h2.length (fun i x y hx hy=> ?_)
  obtain ⟨y',hy',v',h3,h4⟩:=h2.get hx
  rw [hy] at hy'
  cases hy'
  have hf:=hflat y (List.mem_of_getElem? hy)
  have:oldV w.heap.size y=some y:=by
   refine oldV_flat ?_
   cases y with
   | agg cs=>cases hf
   | _=>exact hf
  rw [this] at h3
  cases h3
  exact h4
 have kind:(∃cs,v= .agg cs∧ag=true)∨(v.cells.toList=[v]∧ag=false∧flatB w.heap.size v=flat1 w.heap.size v):=by
  cases m with
  | zero=>cases hty
  | succ m=>
   unfold tys at hty
   unfold Value.okWide at hv
   split at hty
   ·rename_i k hu
    cases hty
    obtain ⟨n,e,_⟩:=DataW.trod_int hu h
    right
    cases v with
    | agg cs=>rw [hu] at hv; simp [Cell.okWide,Cell.ok,hu] at hv
    | _=>exact ⟨rfl,rfl,rfl⟩
   ·rename_i hu
    cases hty
    right
    cases v with
    | agg cs=>rw [hu] at hv; simp [Cell.okWide,Cell.ok,hu] at hv
    | _=>exact ⟨rfl,rfl,rfl⟩
   ·rename_i hu
    cases hty
    right
    cases v with
    | agg cs=>rw [hu] at hv; simp [Cell.okWide,Cell.ok,hu] at hv
    | _=>exact ⟨rfl,rfl,rfl⟩
   ·rename_i e hu
    right
    have hag:ag=false:=by
     split at hty
     ·rename_i es1 ag1 _
      cases hb:(decide (0<es1.length) &&decide (P.cellsOf e=es1.length) &&(ag1 || decide (es1.length=1))) <;>rw [hb] at hty <;>cases hty
      rfl
     ·cases hty
    cases v with
    | agg cs=>rw [hu] at hv; simp [Cell.okWide,Cell.ok,hu] at hv
    | _=>exact ⟨rfl,hag,rfl⟩
   ·rename_i fs hu
    left
    rw [hu] at hv
    obtain ⟨cs,rfl,_⟩:=hv
    refine ⟨cs,rfl, ?_⟩
    split at hty
    ·rename_i es1 _
     cases hb:decide (P.cellsOf t=es1.length) <;>rw [hb] at hty <;>cases hty
     rfl
    ·cases hty
   ·cases hty
 refine ⟨packT ag ts,⟨ts,rfl,h1⟩, ?_, ?_,hwt⟩
 ·rcases kind with ⟨cs,rfl,rfl⟩ | ⟨hcell,rfl,_⟩
  ·exact .tagg hsr
  ·rw [hcell] at hsr
   cases hsr with
   | cons h3 h4=>
    cases h4
    exact .t h3
 ·rcases kind with ⟨cs,rfl,rfl⟩ | ⟨hcell,rfl,hb⟩
  ·exact List.all_eq_true.2 hflat
  ·rw [hb]
   exact hflat v (by rw [hcell]; simp)
end
end Go.Proofs.Ytpfploolkmcalaa.VM
end
section
namespace Go.Proofs.Ytpfploolkmcalaa.VM
set_option linter.unusedVariables false
open Go AM
theorem shape_int{k:IntKind}{n:Int}{zs l:List Value}(h:shapeB (.int k n::zs) l=true) :∃(a:Int) (r:List Value),l= .int k a::r∧shapeB zs r=true:=by
 cases l with
 | nil=>simp [shapeB] at h
 | cons x l=>
  cases x <;>simp [shapeB] at h
  obtain ⟨rfl,h⟩:=h
  exact ⟨_,_,rfl,h⟩
theorem shape_str{s:ByteArray}{zs l:List Value}(h:shapeB (.string s::zs) l=true) :∃(a:ByteArray) (r:List Value),l= .string a::r∧shapeB zs r=true:=by
 cases l with
 | nil=>simp [shapeB] at h
 | cons x l=>
  cases x <;>simp [shapeB] at h
  exact ⟨_,_,rfl,h⟩
theorem shape_nil{l:List Value}(h:shapeB [] l=true) :l=[]:=by
 cases l with
 | nil=>rfl
 | cons x l=>simp [shapeB] at h
theorem bytes_beq(s s':ByteArray) :(s.toList==s'.toList)=decide (s=s'):=by
 by_cases h:s=s'
 ·subst h; simp
 ·have hne:s.toList ≠s'.toList:=fun e=>h (by
   rw [ByteArray.toList_eq,ByteArray.toList_eq] at e
   obtain ⟨x⟩:=s
   obtain ⟨y⟩:=s'
   exact congrArg ByteArray.mk (Array.toList_inj.1 e))
  simp [h,hne]
end Go.Proofs.Ytpfploolkmcalaa.VM
end
section
namespace Go.Proofs.Ytpfploolkmcalaa.VM
set_option linter.unusedVariables false
open Go AM
abbrev Tk :=Int×ByteArray×Int
def jline :Bool→List (Tk×Int)→Option Bool
 | l,[]=>some l
 | l,x::r=>if x.2=0∧¬(l=true∧x.1.1=4) then jline (decide (x.1.1=4)) r else none
def jtext :List UInt8→List (Tk×Int)→List UInt8
 | _,[]=>[]
 | sp,x::r=>if x.1.1=4 then jtext [10] r else sp++(x.1.2.1.data.toList++jtext [32] r)
def joinE(xs:List (Tk×Int)) :List UInt8×Int:=
 match jline true xs with
 | none=>([],1)
 | some l=>if l=true∧0<xs.length then ([],1) else if 4096<xs.length then ([],2) else (jtext [] xs,0)
def joinOk(xs:List (Tk×Int)) :Bool:=decide (xs.length≤140737488355328) &&(!decide ((joinE xs).2=0) || decide ((jtext [] xs).length≤140737488355328))
def tokV(x:T) :Option Tk:=match x with | .agg [.int .i64 k, .str s, .int .i64 n]=>some (k,s,n) | _=>none
def resV1(r:Option (V×St)) :Option Int:=match r with | some (.t (.int .i64 n),_)=>some n | _=>none
def chksV(call:CallF)(chk:Nat) :List T→Option (List (Tk×Int))
 | []=>some []
 | x::l=>match tokV x,resV1 (call chk 0 [.t x] ⟨[],[]⟩),chksV call chk l with
  | some t,some e,some r=>some ((t,e)::r)
  | _,_,_=>none
def joinV(call:CallF)(chk:Nat)(l:List V) :Option V:=
 match l with
 | [.t (.list 3 _ ts)]=>(chksV call chk ts).bind fun xs=>needC (joinOk xs) fun _=>some (.tup [.t (.str ⟨(joinE xs).1.toArray⟩), .t (.int .i64 (joinE xs).2)])
 | _=>none
theorem resV1_mono{c c':Option (V×St)}(h:∀r,c=some r→c'=some r){n:Int}(hn:resV1 c=some n) :resV1 c'=some n:=by
 cases hc:c with
 | none=>rw [hc] at hn; cases hn
 | some r=>rw [h r hc,←hc]; exact hn
theorem chksV_mono{c c':CallF}(h:∀g w vs st r,c g w vs st=some r→c' g w vs st=some r)(chk:Nat) :∀{l:List T} {xs:List (Tk×Int)},chksV c chk l=some xs→chksV c' chk l=some xs
 | [],xs,hx=>hx
 | x::l,xs,hx=>by
  rw [chksV] at hx ⊢
  split at hx
  ·rename_i t e r h1 h2 h3
   rw [h1,resV1_mono (fun r=>h _ _ _ _ r) h2,chksV_mono h chk h3]
   exact hx
  ·cases hx
def ovJoin(chk:Nat) :OvF:=⟨fun c l=>joinV c chk l,fun c c' h vs v hv=>by
 unfold joinV at hv ⊢
 split at hv
 ·obtain ⟨xs,h1,h2⟩:=Option.bind_eq_some_iff.1 hv
  simp only [chksV_mono h chk h1]
  exact h2
 ·cases hv⟩
end Go.Proofs.Ytpfploolkmcalaa.VM
end
