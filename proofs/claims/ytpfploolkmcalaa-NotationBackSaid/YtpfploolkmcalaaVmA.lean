/- Merged: Vm1 Vm2 Vm3 Vm4 Vm5. Conditions: none. -/
import Derived.Test.YtpfploolkmcalaaAmA
import Derived.KernelRfl
set_option linter.all false
section
namespace Go.Proofs.Ytpfploolkmcalaa.VM
set_option linter.unusedVariables false
set_option linter.unusedSimpArgs false
set_option linter.unusedSectionVars false
open Go AM
inductive T where
 | int (k:IntKind) (n:Int)
 | bool (b:Bool)
 | str (s:ByteArray)
 | list (sz:Nat) (nn:Bool) (l:List T)
 | agg (cs:List T)
def T.cells :T→List T
 | .agg cs=>cs
 | x=>[x]
inductive V where
 | t (x:T)
 | con (v:Value)
 | buf (id:Nat)
 | ptr (id i off:Nat)
 | pt (x:T)
 | map (id:Nat)
 | fn (g:FuncId) (first caps:List V)
 | agg (cs:List V)
 | tup (vs:List V)
 | junk
inductive RowV where
 | own (nn:Bool) (l:List T)
 | tree (x:T)
 | gone
inductive Blk where
 | arr (own:Bool) (sz:Nat) (nn:Bool) (l:List T)
 | var (cs:List V)
 | av (l:List T)
 | map (es:List (T×T))
 | rows (sz:Nat) (l:List RowV)
abbrev Bs :=List (Nat×Blk)
structure St where
 blks:Bs
 used:List Nat
abbrev Env :=List (Nat×V)
def Env.get :Env→Nat→V
 | [],_=> .junk
 | (i,v)::e,t=>bif i==t then v else Env.get e t
def Env.put(e:Env)(d:Option Nat)(v:V) :Env:=match d with | some d=>(d,v)::e | none=>e
def Bs.get :Bs→Nat→Option Blk
 | [],_=>none
 | (i,b)::l,id=>bif i==id then some b else Bs.get l id
def Bs.set :Bs→Nat→Blk→Bs
 | [],_,_=>[]
 | (i,b)::l,id,b'=>bif i==id then (i,b')::l else (i,b)::Bs.set l id b'
def Bs.del :Bs→Nat→Bs
 | [],_=>[]
 | (i,b)::l,id=>bif i==id then Bs.del l id else (i,b)::Bs.del l id
inductive TP1 where
 | int (k:IntKind) | bool | str | list (sz:Nat) | ptr | map | oth
inductive TP where
 | one (p:TP1)
 | agg (ps:List TP1)
def allT :List V→Option (List T)
 | []=>some []
 | v::vs=>match v with
  | .t x=>match x with
   | .agg _=>none
   | x=>(allT vs).map (x:: ·)
  | _=>none
def aggV(vs:List V) :V:=match allT vs with | some ts=> .t (.agg ts) | none=> .agg vs
def V.cells :V→List V
 | .t x=>match x with | .agg cs=>cs.map .t | x=>[.t x]
 | .agg vs=>vs
 | v=>[v]
def okV :V→Bool
 | .t x=>match x with | .agg _=>false | _=>true
 | .con v=>plain1 v
 | .buf _ | .ptr .. | .pt _ | .map _ | .fn .. =>true
 | _=>false
def scal :T→Bool
 | .agg _=>false
 | _=>true
section
variable {R:Type}
def fitT1(p:TP1)(x:T)(K:T→Option R) :Option R:=
 match p with
 | .int k=>match x with
  | .int k' n=>bif decide (k'=k) then K (.int k n) else none
  | _=>none
 | .bool=>match x with | .bool b=>K (.bool b) | _=>none
 | .str=>match x with | .str s=>K (.str s) | _=>none
 | .list s=>match x with
  | .list s' nn l=>bif s'==s then K (.list s nn l) else none
  | _=>none
 | _=>none
def fitTs :List TP1→List T→(List T→Option R)→Option R
 | [],xs,K=>match xs with | []=>K [] | _::_=>none
 | p::ps,xs,K=>match xs with
  | x::xs=>fitT1 p x fun u=>fitTs ps xs fun us=>K (u::us)
  | []=>none
def fitT(p:TP)(x:T)(K:T→Option R) :Option R:=
 match p with
 | .one p=>fitT1 p x K
 | .agg ps=>match x with
  | .agg cs=>fitTs ps cs fun us=>K (.agg us)
  | _=>none
def fitV1(p:TP1)(v:V)(K:V→Option R) :Option R:=
  match v with
  | .t x=>fitT1 p x fun u=>K (.t u)
  | .buf id=>match p with | .list _=>K (.buf id) | _=>none
  | .ptr a i o=>match p with | .ptr=>K (.ptr a i o) | _=>none
  | .pt x=>match p with | .ptr=>K (.pt x) | _=>none
  | .map id=>match p with | .map=>K (.map id) | _=>none
  | .fn g f c=>match p with | .oth=>K (.fn g f c) | _=>none
  | .con u=>match p with
    | .ptr => match u with | .pointer a => match a with | none => K (.con (.pointer none)) | some _ => none
                           | _=>none
    | .map => match u with | .map a => match a with | none => K (.con (.map none)) | some _ => none
                           | _=>none
    | .oth=>match u with | .nilFunc=>K (.con .nilFunc) | .nilIface=>K (.con .nilIface) | _=>none
    | _=>none
  | _=>none
def fitVs :List TP1→List V→(List V→Option R)→Option R
 | [],xs,K=>match xs with | []=>K [] | _::_=>none
 | p::ps,xs,K=>match xs with
  | x::xs=>fitV1 p x fun u=>fitVs ps xs fun us=>K (u::us)
  | []=>none
/-! ### types -/
def tp1Of(P:Program)(t:TypeId) :Option TP1:=
 match P.underlying t with
 | some (.int k)=>some (.int k)
 | some .bool=>some .bool
 | some .string=>some .str
 | some (.slice e)=>(P.info? e).map fun i=> .list i.size
 | some (.pointer _)=>some .ptr
 | some (.map _ _)=>some .map
 | some (.func ..)=>some .oth
 | some (.interface _)=>some .oth
 | _=>none
def cellsOf(P:Program) :Nat→TypeId→Option (List TP1)
 | 0,_=>none
 | n+1,t=>match P.underlying t with
  | some (.struct fs)=>fs.toList.foldr (fun f r=>match cellsOf P n f.type,r with | some a,some b=>some (a++b) | _,_=>none) (some [])
  | some (.array k e)=>(cellsOf P n e).map fun a=>(List.replicate k a).flatten
  | _=>(tp1Of P t).map ([·])
def tpOf(P:Program)(t:TypeId) :Option TP:=
 match P.underlying t with
 | some (.struct _)=>(cellsOf P 8 t).map .agg
 | some (.array _ _)=>(cellsOf P 8 t).map .agg
 | _=>(tp1Of P t).map .one
def tpz1(p:TP1)(z:Value) :Bool:=
 match p,z with
 | .int k, .int k' n=>decide (k'=k) &&decide (n=0)
 | .bool, .bool b=> !b
 | .str, .string s=>decide (s=ByteArray.empty)
 | .list _, .slice none n c=>n==0 &&c==0
 | .ptr, .pointer none=>true
 | .map, .map none=>true
 | .oth, .nilFunc=>true
 | .oth, .nilIface=>true
 | _,_=>false
def tpzs :List TP1→List Value→Bool
 | [],[]=>true
 | p::ps,z::zs=>tpz1 p z &&tpzs ps zs
 | _,_=>false
def tpz(p:TP)(z:Value) :Bool:=
 match p,z with
 | .one p,z=>tpz1 p z
 | .agg ps, .agg zs=>tpzs ps zs.toList
 | _,_=>false
def tpC(P:Program)(t:TypeId)(K:TP→Value→Option R) :Option R:=
 match tpOf P t,P.info? t with
 | some p,some i=>zeroC P t fun z=>needC (tpz p z &&decide (z.cells.size=i.size)) fun _=>K p z
 | _,_=>none
def zero1(p:TP1)(z:Value) :V:=
 match p with
 | .int k=> .t (.int k 0)
 | .bool=> .t (.bool false)
 | .str=> .t (.str ByteArray.empty)
 | .list s=> .t (.list s false [])
 | _=> .con z
def zeros :List TP1→List Value→List V
 | [],_=>[]
 | p::ps,zs=>match zs with | z::zs=>zero1 p z::zeros ps zs | []=>[]
def zeroV(p:TP)(z:Value) :V:=
 match p with
 | .one p=>zero1 p z
 | .agg ps=>match z with | .agg zs=>aggV (zeros ps zs.toList) | _=> .junk
/-! ### constants -/
def const1(v:Value) :V:=
 match v with
 | .int k n=> .t (.int k n)
 | .bool b=> .t (.bool b)
 | .string s=> .t (.str s)
 | .slice a n c=>match a with | none=>bif n==0 &&c==0 then .t (.list 0 false []) else .junk | some _=> .junk
 | v=>bif plain1 v then .con v else .junk
def constV(v:Value) :V:=
 match v with
 | .agg cs=>aggV (cs.toList.map const1)
 | .tuple vs=>bif vs.isEmpty then .tup [] else .junk
 | v=>const1 v
def const1To(p:TP1)(v:Value) :V:=
 match p,v with
 | .list s, .slice none n c=>bif n==0 &&c==0 then .t (.list s false []) else .junk
 | _,v=>const1 v
def constsTo :List TP1→List Value→List V
 | p::ps,vs=>match vs with | v::vs=>const1To p v::constsTo ps vs | []=>[]
 | [],vs=>vs.map const1
def constTo(p:TP)(v:Value) :V:=
 match p with
 | .one p=>match v with | .agg cs=>aggV (cs.toList.map const1) | .tuple vs=>bif vs.isEmpty then .tup [] else .junk | v=>const1To p v
 | .agg ps=>match v with | .agg cs=>aggV (constsTo ps cs.toList) | v=>constV v
def evV(e:Env) :Operand→V
 | .tmp t=>e.get t
 | .const v=>constV v
 | .global _=> .junk
 | .func f=> .fn f [] []
def evT(P:Program)(t:TypeId)(ev:Operand→V)(o:Operand) :V:=
 match o with
 | .const v=>match tpOf P t with | some p=>constTo p v | none=>constV v
 | o=>ev o
/-! ### blocks -/
def getT(l:List T)(i:Nat)(K:T→Option R) :Option R:=match l[i]? with | some x=>K x | none=>none
def getV(l:List V)(i:Nat)(K:V→Option R) :Option R:=match l[i]? with | some x=>K x | none=>none
def spliceT(cs:List T)(o:Nat)(vs:List T) :List T:=cs.take o++vs++cs.drop (o+vs.length)
def spliceV(cs:List V)(o:Nat)(vs:List V) :List V:=cs.take o++vs++cs.drop (o+vs.length)
def St.mint(st:St)(id:Nat)(b:Blk)(K:St→Option R) :Option R:=
 needC (Nat.ble 500 id && !(st.used.contains id)) fun _=>K ⟨(id,b)::st.blks,id::st.used⟩
def ownOff :Blk→Blk
 | .arr _ sz nn l=> .arr false sz nn l
 | b=>b
def Bs.freeze(bs:Bs) :List Nat→Bs
 | []=>bs
 | id::ids=>match bs.get id with
  | some b=>Bs.freeze (bs.set id (ownOff b)) ids
  | none=>Bs.freeze bs ids
def contC(bs:Bs)(v:V)(K:Nat→Bool→List T→Option R) :Option R:=
 match v with
 | .t x=>match x with | .list sz nn l=>K sz nn l | _=>none
 | .buf id=>match bs.get id with
  | some b=>match b with | .arr _ sz nn l=>K sz nn l | _=>none
  | none=>none
 | _=>none
def close1(bs:Bs)(v:V)(K:T→Option R) :Option R:=
 match v with
 | .t x=>K x
 | .buf id=>contC bs (.buf id) fun sz nn l=>K (.list sz nn l)
 | _=>none
def closes(bs:Bs) :List V→(List T→Option R)→Option R
 | [],K=>K []
 | v::vs,K=>close1 bs v fun x=>needC (scal x) fun _=>closes bs vs fun xs=>K (x::xs)
def close(bs:Bs)(v:V)(K:T→Option R) :Option R:=
 match v with
 | .agg vs=>closes bs vs fun xs=>K (.agg xs)
 | v=>close1 bs v K
def buf1 :V→List Nat
 | .buf id=>[id]
 | _=>[]
def V.bufs :V→List Nat
 | .agg vs=>vs.flatMap buf1
 | v=>buf1 v
def closeF(st:St)(v:V)(K:T→St→Option R) :Option R:=close st.blks v fun x=>K x ⟨st.blks.freeze v.bufs,st.used⟩
def closeFs(st:St) :List V→(List T→St→Option R)→Option R
 | [],K=>K [] st
 | v::vs,K=>closeF st v fun x st=>closeFs st vs fun xs st=>K (x::xs) st
def ldB(p:TP)(b:Blk)(i off:Nat)(K:V→Option R) :Option R:=
 match b with
 | .arr _ sz _ l=>getT l i fun x=>bif sz==1 then needC (off==0) fun _=>fitT p x fun u=>K (.t u) else
   match p with
   | .one q=>getT x.cells off fun y=>fitT1 q y fun u=>K (.t u)
   | .agg ps=>bif off==0 &&ps.length==sz then fitT p x fun u=>K (.t u)
     else fitTs ps ((x.cells.drop off).take ps.length) fun us=>K (.t (.agg us))
 | .var cs=>match p with
   | .one q=>getV cs off fun v=>fitV1 q v K
   | .agg ps=>fitVs ps ((cs.drop off).take ps.length) fun us=>K (aggV us)
 | .av l=>match p with
   | .one q=>getT l off fun y=>fitT1 q y fun u=>K (.t u)
   | .agg ps=>fitTs ps ((l.drop off).take ps.length) fun us=>K (.t (.agg us))
 | .map _=>none
 | .rows .. =>none
def setT(l:List T)(i:Nat)(x:T)(K:List T→Option R) :Option R:=needC (decide (i<l.length)) fun _=>K (l.set i x)
def stT(s:Nat)(b:Blk)(i off:Nat)(x:T)(K:Blk→Option R) :Option R:=
 match b with
 | .arr own sz nn l=>needC (own &&nn &&decide (x.cells.length=s)) fun _=>
   bif s==sz &&off==0 then setT l i x fun l=>K (.arr own sz nn l)
   else getT l i fun y=>needC (decide (off+x.cells.length≤y.cells.length) &&Nat.ble 2 sz) fun _=>K (.arr own sz nn (l.set i (.agg (spliceT y.cells off x.cells))))
 | .av l=>needC (decide (x.cells.length=s)) fun _=>
   bif s==1 then needC (scal x) fun _=>setT l off x fun l=>K (.av l)
   else needC (off==0 &&decide (x.cells.length=l.length)) fun _=>K (.av x.cells)
 | _=>none
def stB(s:Nat)(st:St)(id i off:Nat)(v:V)(K:St→Option R) :Option R:=
 match st.blks.get id with
 | some b=>match b with
  | .var cs=>needC (decide (v.cells.length=s) &&v.cells.all okV &&decide (off+v.cells.length≤cs.length)) fun _=>K ⟨st.blks.set id (.var (spliceV cs off v.cells)),st.used⟩
  | _=>closeF st v fun x st=>match st.blks.get id with
   | some b=>stT s b i off x fun b=>K ⟨st.blks.set id b,st.used⟩
   | none=>none
 | none=>none
/-! ### operations -/
def valOf(v:V) :Value:=
 match v with
 | .t x=>match x with | .int k n=> .int k n | .bool b=> .bool b | .str s=> .string s | _=>AM.junk
 | .con v=>v
 | _=>AM.junk
def ofVal(v:Value) :V:=
 match v with
 | .int k n=> .t (.int k n)
 | .bool b=> .t (.bool b)
 | .string s=> .t (.str s)
 | _=> .junk
def eqT1(x y:T) :Option Bool:=
 match x,y with
 | .int k a, .int k' b=>bif decide (k=k') then some (decide (a=b)) else none
 | .bool a, .bool b=>some (a==b)
 | .str a, .str b=>some (decide (a=b))
 | _,_=>none
def eqTs :List T→List T→Option Bool
 | [],[]=>some true
 | x::xs,y::ys=>match eqT1 x y with
  | some b=>(eqTs xs ys).map (b && ·)
  | none=>none
 | _,_=>none
def shapeT :List Value→List T→Bool
 | [],[]=>true
 | .int k _::zs, .int k' _::vs=>decide (k'=k) &&shapeT zs vs
 | .bool _::zs, .bool _::vs=>shapeT zs vs
 | .string _::zs, .str _::vs=>shapeT zs vs
 | _,_=>false
def eqlV(op:BinOp)(b:Bool)(K:V→Option R) :Option R:=
 match op with
 | .eql=>K (.t (.bool b))
 | .neq=>K (.t (.bool (!b)))
 | _=>none
def isNilS(v:V) :Bool:=
 match v with
 | .t x=>match x with | .list _ nn l=> !nn &&l.isEmpty | _=>false
 | _=>false
def isNilP(v:V) :Bool:=
 match v with
 | .con u=>match u with | .pointer a=>a.isNone | _=>false
 | _=>false
def binV(bs:Bs)(op:BinOp)(d:Option TypeDesc)(eqt:Option (List Value))(x y:V)(K:V→Option R) :Option R:=
  match d with
  | some (.slice _)=>needC (isNilS y) fun _=>contC bs x fun _ nn _=>eqlV op (!nn) K
  | some (.pointer _)=>needC (isNilP y) fun _=>match x with
    | .con v => match v with | .pointer a => match a with | none => eqlV op true K | some _ => none
                             | _=>none
    | .ptr .. =>eqlV op false K
    | .pt _=>eqlV op false K
    | _=>none
  | _=>match x with
    | .t a=>match a with
      | .agg xs=>match y with
        | .t b=>match b with
          | .agg ys=>match eqt with
            | some zs=>needC (shapeT zs xs &&shapeT zs ys) fun _=>match eqTs xs ys with
              | some b=>eqlV op b K
              | none=>none
            | none=>none
          | _=>none
        | _=>none
      | .int .. =>binC op d none (valOf x) (valOf y) fun v=>K (ofVal v)
      | .bool _=>binC op d none (valOf x) (valOf y) fun v=>K (ofVal v)
      | .str _=>binC op d none (valOf x) (valOf y) fun v=>K (ofVal v)
      | _=>none
    | _=>none
def asIntV (v : V) (K : IntKind → Int → Option R) : Option R := match v with | .t x => match x with | .int k n => K k n | _ => none
                                                                                       | _=>none
def asStrV (v : V) (K : ByteArray → Option R) : Option R := match v with | .t x => match x with | .str s => K s | _ => none
                                                                                       | _=>none
def asBoolV (v : V) (K : Bool → Option R) : Option R := match v with | .t x => match x with | .bool s => K s | _ => none
                                                                                       | _=>none
def byteT(x:T) :UInt8:=match x with | .int _ b=>UInt8.ofNat b.toNat | _=>0
def isByte(x:T) :Bool:=match x with | .int k _=>decide (k= .u8) | _=>false
def convV(P:Program)(bs:Bs)(src dst:TypeId)(x:V)(K:V→Option R) :Option R:=
 match P.underlying src,P.underlying dst with
 | some (.int _),some (.int k)=>asIntV x fun _ n=>K (.t (.int k (k.wrap n)))
 | some (.int _),some .string=>asIntV x fun _ n=>needC (decide (0≤n) &&decide (n<128)) fun _=>K (.t (.str ⟨#[n.toNat.toUInt8]⟩))
 | some .string,some .string=>asStrV x fun s=>K (.t (.str s))
 | some (.slice e),some .string=>match P.underlying e with
  | some (.int .u8)=>contC bs x fun sz _ l=>needC (sz==1 &&l.all isByte) fun _=>K (.t (.str ⟨(l.map byteT).toArray⟩))
  | _=>none
 | _,_=>none
def unV(op:UnOp)(x:V)(K:V→Option R) :Option R:=unC op (valOf x) fun v=>K (ofVal v)
def fillV(place:Nat→Option (Nat×Nat)) :List V→List (Nat×V)→(List V→Option R)→Option R
 | cs,[],K=>K cs
 | cs,(i,v)::r,K=>match place i with
  | some (off,size)=>needC (decide (v.cells.length=size) &&decide (off+size≤cs.length) &&v.cells.all okV) fun _=>fillV place (spliceV cs off v.cells) r K
  | none=>none
def partTypes(P:Program)(t:TypeId)(i:Nat) :TypeId:=
 match P.underlying t with
 | some (.struct fs)=>match fs[i]? with | some f=>f.type | none=>t
 | some (.array _ e)=>e
 | some (.slice e)=>e
 | _=>t
def buildV(P:Program)(t:TypeId)(parts:List (Nat×V))(K:V→Option R) :Option R:=
 tpC P t fun p z=>match P.underlying t with
  | some (.struct fs)=>match placesOf P fs with
   | some ps=>fillV (fun i=>ps[i]?) (zeroV p z).cells parts fun cs=>K (aggV cs)
   | none=>none
  | some (.array _ e)=>sizeC P e fun s=>fillV (fun i=>some (i*s,s)) (zeroV p z).cells parts fun cs=>K (aggV cs)
  | _=>none
def putTs :List T→List (Nat×T)→(List T→Option R)→Option R
 | l,[],K=>K l
 | l,(i,x)::r,K=>needC (decide (i<l.length)) fun _=>putTs (l.set i x) r K
def fits1(p:TP1)(x:T) :Bool:=
 match p,x with
 | .int k, .int k' _=>decide (k'=k)
 | .bool, .bool _=>true
 | .str, .str _=>true
 | .list s, .list s' _ _=>s'==s
 | _,_=>false
def cutL(l:List T)(lo hi:Option Int)(K:List T→Option R) :Option R:=
 needC (decide (0≤lo.getD 0) &&decide (lo.getD 0≤hi.getD l.length) &&decide (hi.getD l.length≤(l.length:Int))) fun _=>K ((l.take (hi.getD l.length).toNat).drop (lo.getD 0).toNat)
def srcV(bs:Bs)(s:Nat)(x:V)(str:Bool)(K:List T→Option R) :Option R:=
 bif str then asStrV x fun b=>needC (s==1) fun _=>K (b.data.toList.map fun c=> .int .u8 c.toNat)
 else contC bs x fun sz _ l=>needC (sz==s || l.isEmpty) fun _=>K l
def cutB(st:St)(id' s:Nat)(sl:V)(lo hi:Option Int)(K:V→St→Option R) :Option R:=
 match sl with
 | .buf id=>match st.blks.get id with
  | some b=>match b with
   | .arr own sz nn l=>needC (own &&nn &&sz==s &&decide (lo.getD 0=0) &&decide (0≤hi.getD l.length) &&decide (hi.getD l.length≤(l.length:Int))) fun _=>
     St.mint ⟨st.blks.del id,st.used⟩ id' (.arr true s true (l.take (hi.getD l.length).toNat)) fun st=>K (.buf id') st
   | _=>none
  | none=>none
 | _=>none
def sliceB(cut:Bool)(st:St)(id' s:Nat)(sl:V)(lo hi:Option Int)(K:V→St→Option R) :Option R:=
 bif cut then cutB st id' s sl lo hi K else closeF st sl fun y st=>match y with
  | .list sz nn l=>needC (sz==s) fun _=>cutL l lo hi fun l=>K (.t (.list sz nn l)) st
  | _=>none
def appendV(st:St)(id' s bytes:Nat)(sl:V)(xs:List T)(K:V→St→Option R) :Option R:=
 match sl with
 | .t x=>match x with
  | .list _ nn l=>needC (!nn &&l.isEmpty &&decide (xs.length*(bytes+1)≤70368744177664) &&decide (bytes≤1048576)) fun _=>st.mint id' (.arr true s (!xs.isEmpty) xs) fun st=>K (.buf id') st
  | _=>none
 | .buf id=>match st.blks.get id with
  | some b=>match b with
   | .arr own sz nn l=>needC (own &&sz==s &&decide ((l.length+xs.length)*(bytes+1)≤70368744177664) &&decide (bytes≤1048576)) fun _=>
     St.mint ⟨st.blks.del id,st.used⟩ id' (.arr true s (nn || !xs.isEmpty) (l++xs)) fun st=>K (.buf id') st
   | _=>none
  | none=>none
 | _=>none
def keyT(x y:T) :Option Bool:=
 match x,y with
 | .int k a, .int k' b=>bif decide (k=k') then some (decide (a=b)) else none
 | .str a, .str b=>some (decide (a=b))
 | _,_=>none
def lookT :List (T×T)→T→Option (Option T)
 | [],_=>some none
 | (k,v)::es,x=>match keyT x k with
  | some true=>some (some v)
  | some false=>lookT es x
  | none=>none
def putT :List (T×T)→T→T→List (T×T)
 | [],x,u=>[(x,u)]
 | (k,v)::es,x,u=>match keyT x k with
  | some true=>(x,u)::es
  | _=>(k,v)::putT es x u
def dropT :List (T×T)→T→List (T×T)
 | [],_=>[]
 | (k,v)::es,x=>match keyT x k with
  | some true=>es
  | _=>(k,v)::dropT es x
def keyKindT(P:Program)(kt:TypeId)(x:T) :Bool:=
 match P.underlying kt,x with
 | some (.int k), .int k' _=>decide (k=k')
 | some .string, .str _=>true
 | _,_=>false
def mapC(bs:Bs)(m:V)(K:Nat→List (T×T)→Option R) :Option R:=
 match m with
 | .map id=>match bs.get id with
  | some b=>match b with | .map es=>K id es | _=>none
  | none=>none
 | _=>none
def lkT(es:List (T×T))(key z:T)(K:T→Bool→Option R) :Option R:=
 match lookT es key with
 | some r=>K (r.getD z) r.isSome
 | none=>none
def keyV(x:V)(K:T→Option R) :Option R:=match x with | .t k=>K k | _=>none
def closedZero(p:TP)(z:Value)(K:T→Option R) :Option R:=match zeroV p z with | .t x=>K x | _=>none
def lookV(P:Program)(t:TypeId)(m key:V)(ok:Bool)(bs:Bs)(K:V→Option R) :Option R:=
 mapTypeC P t fun kt e=>keyV key fun k=>needC (keyKindT P kt k) fun _=>tpC P e fun p z=>closedZero p z fun z=>mapC bs m fun _ es=>
  lkT es k z fun v b=>fitT p v fun u=>K (bif ok then .tup [.t u, .t (.bool b)] else .t u)
def mostV(big:Bool)(k:IntKind) :Int→List V→(V→Option R)→Option R
 | a,[],K=>K (.t (.int k a))
 | a,v::r,K=>asIntV v fun k' b=>needC (decide (k'=k)) fun _=>mostV big k (bif big then max a b else min a b) r K
end
end Go.Proofs.Ytpfploolkmcalaa.VM
end
section
namespace Go.Proofs.Ytpfploolkmcalaa.VM
set_option linter.unusedVariables false
set_option linter.unusedSimpArgs false
set_option linter.unusedSectionVars false
open Go AM
/-! ### what is told beside the program -/
inductive CP where
 | t (p:TP1) | buf (id:Nat) | ptr (id i off:Nat) | map (id:Nat) | nilp
inductive VP0 where
 | t (p:TP) | buf (id:Nat) | ptr (id i off:Nat) | map (id:Nat) | nilp | agg (cs:List CP)
inductive VP where
 | one (p:VP0) | tup (ps:List VP0)
inductive BP where
 | arr (sz:Nat) | var (cs:List CP) | av | map
structure CallH where
 w:Nat:=0
 own:List Nat:=[]
 pre:List (Nat×Nat×Nat):=[]
 out:VP
 blks:List (Nat×BP):=[]
 alt:List (VP×List (Nat×BP)):=[]
structure Norm where
 slots:List (Nat×Nat)
 cells:List (Nat×Nat×Nat):=[]
structure Hint where
 eqt:TypeId→Option (List Value)
 norm:FuncId→Nat→Nat→Option Norm
 call:FuncId→Nat→Nat→Nat→Option CallH
 own:FuncId→Nat→List Nat
 unroll:FuncId→Nat→Nat→Nat
 isOv:FuncId→Bool:=fun _=>false
 ov:(FuncId→Nat→List V→St→Option (V×St))→FuncId→List V→Option V:=fun _ _ _=>none
 mono:∀c c':FuncId→Nat→List V→St→Option (V×St),(∀g w as st r,c g w as st=some r→c' g w as st=some r)→∀f as v,ov c f as=some v→ov c' f as=some v:=by exact fun _ _ _ _ _ _ h=>h
 cut:FuncId→Nat→Nat→Nat→Bool:=fun _ _ _ _=>false
/-! ### names of blocks -/
def refs1 :V→List Nat
 | .buf id=>[id]
 | .ptr id _ _=>[id]
 | .map id=>[id]
 | _=>[]
def refs2 :V→List Nat
 | .agg vs=>vs.flatMap refs1
 | .fn _ f c=>f.flatMap refs1++c.flatMap refs1
 | v=>refs1 v
def refs3 :V→List Nat
 | .tup vs=>vs.flatMap refs2
 | v=>refs2 v
def refsB :Blk→List Nat
 | .var cs=>cs.flatMap refs2
 | _=>[]
def live :Blk→Bool
 | .arr own _ _ _=>own
 | _=>true
def isRows :Blk→Bool
 | .rows .. =>true
 | _=>false
def noRows(bs:Bs) :Bool:=bs.all fun x=> !isRows x.2
def wr :Blk→Bool
 | .rows .. =>false
 | .arr own _ nn _=>own &&nn
 | _=>true
def ow :Blk→Bool
 | .rows .. =>false
 | .arr own _ _ _=>own
 | _=>true
def owB(bs:Bs)(q:Nat) :Bool:=match bs.get q with | some b=>ow b | none=>false
def rowsAt(bs:Bs)(q:Nat) :Bool:=match bs.get q with | some b=>isRows b | none=>false
def aloneOk(al:Option (List Nat))(bs:Bs)(met:List Nat) :Bool:=
 match al with
 | none=>true
 | some []=>met.isEmpty
 | some (id::l)=>(id::l).all fun id=> !(met.contains id) &&owB bs id
def storeOk(al:Option (List Nat))(bs:Bs)(id:Nat) :Bool:=
 match al with
 | none=>true
 | some []=>false
 | some (q::l)=>owB bs id &&(q::l).all fun q=> !(q==id) &&owB bs q
def appOk(al:Option (List Nat))(bs:Bs)(sl:V) :Bool:=
 match al with
 | none=>true
 | some []=>false
 | some (q::l)=>match sl with
  | .buf id=>storeOk (some (q::l)) bs id
  | .t _=>(q::l).all fun q=>owB bs q
  | _=>false
def headV(l:List V) :V:=match l with | v::_=>v | []=> .junk
def reach(bs:Bs) :Nat→List Nat→List Nat→List Nat
 | 0,_,met=>met
 | n+1,todo,met=>match todo with
  | []=>met
  | id::todo=>bif met.contains id then reach bs n todo met else match bs.get id with
   | some b=>bif live b then reach bs n (refsB b++todo) (met++[id]) else reach bs n todo met
   | none=>reach bs n todo met
def pos :List Nat→Nat→Nat→Option Nat
 | [],_,_=>none
 | x::l,k,id=>bif x==id then some k else pos l (k+1) id
def ren1(σ:Nat→Option Nat)(bs:Bs)(v:V) :V:=
 match v with
 | .t x=> .t x
 | .con u=> .con u
 | .pt x=> .pt x
 | .buf id=>match bs.get id with
  | some b=>match b with
   | .arr own sz nn l=>bif own then (match σ id with | some j=> .buf j | none=> .junk) else .t (.list sz nn l)
   | .rows .. =>(match σ id with | some j=> .buf j | none=> .junk)
   | _=> .junk
  | none=> .junk
 | .ptr id i o=>match σ id with | some j=> .ptr j i o | none=> .junk
 | .map id=>match σ id with | some j=> .map j | none=> .junk
 | _=> .junk
def ren2(σ:Nat→Option Nat)(bs:Bs)(v:V) :V:=
 match v with
 | .agg vs=>aggV (vs.map (ren1 σ bs))
 | .fn g f c=> .fn g (f.map (ren1 σ bs)) (c.map (ren1 σ bs))
 | v=>ren1 σ bs v
def ren3(σ:Nat→Option Nat)(bs:Bs)(v:V) :V:=
 match v with
 | .tup vs=> .tup (vs.map (ren2 σ bs))
 | v=>ren2 σ bs v
def renB(σ:Nat→Option Nat)(bs:Bs)(b:Blk) :Blk:=
 match b with
 | .var cs=> .var (cs.map (ren2 σ bs))
 | b=>b
def packB(σ:Nat→Option Nat)(bs:Bs) :List Nat→Bs
 | []=>[]
 | id::ids=>match bs.get id,σ id with
  | some b,some j=>(j,renB σ bs b)::packB σ bs ids
  | _,_=>packB σ bs ids
section
variable {R:Type}
def toBuf(st:St)(mid s:Nat)(v:V)(K:V→St→Option R) :Option R:=
 match v with
 | .buf id=>K (.buf id) st
 | .t x=>match x with
  | .list _ nn l=>needC (!nn &&l.isEmpty) fun _=>st.mint mid (.arr true s false []) fun st=>K (.buf mid) st
  | _=>none
 | _=>none
def formC(form mid:Nat)(v:V)(st:St)(K:V→St→Option R) :Option R:=
 match form with
 | 0=>K v st
 | 1=>closeF st v fun x st=>K (.t x) st
 | s+2=>toBuf st mid s v K
def cellC(st:St)(v:V)(mid c form:Nat)(K:St→Option R) :Option R:=
 match v with
 | .ptr id _ _=>match st.blks.get id with
  | some b=>match b with
   | .var cs=>getV cs c fun u=>formC form mid u st fun u st=>needC (decide (c<cs.length)) fun _=>K ⟨st.blks.set id (.var (cs.set c u)),st.used⟩
   | _=>none
  | none=>none
 | _=>none
def slotsC(e:Env) :List (Nat×Nat)→St→(Env→St→Option R)→Option R
 | [],st,K=>K [] st
 | (t,form)::r,st,K=>formC form (7000+t) (e.get t) st fun v st=>slotsC e r st fun vs st=>K ((t,v)::vs) st
def cellsC(e:Env) :List (Nat×Nat×Nat)→St→(St→Option R)→Option R
 | [],st,K=>K st
 | (t,c,form)::r,st,K=>cellC st (e.get t) (8000+20*t+c) c form fun st=>cellsC e r st K
def argIds(bs:Bs) :List Nat:=[0,1,2,3,4,5,6,7].filter fun i=>(bs.get i).isSome
def normN(met:List Nat)(id:Nat) :Option Nat:=bif Nat.ble 8 id then (pos (met.filter (Nat.ble 8)) 8 id) else bif met.contains id then some id else none
def normC(n:Norm)(e:Env)(st:St)(K:Env→St→Option R) :Option R:=
 slotsC e n.slots st fun vs st=>cellsC vs n.cells st fun st=>
  let met:=reach st.blks 200 (argIds st.blks++vs.flatMap fun x=>refs3 x.2) []
  needC (Nat.ble met.length 400) fun _=>K (vs.map fun x=>(x.1,ren3 (normN met) st.blks x.2)) ⟨packB (normN met) st.blks met,[]⟩
/-! ### calls -/
def fitC(p:CP)(v:V)(K:V→Option R) :Option R:=
  match p with
  | .t p=>match v with | .t x=>fitT1 p x fun u=>K (.t u) | _=>none
  | .buf id=>match v with | .buf id'=>bif id'==id then K (.buf id) else none | _=>none
  | .ptr id i o=>match v with | .ptr id' i' o'=>bif id'==id &&i'==i &&o'==o then K (.ptr id i o) else none | _=>none
  | .map id=>match v with | .map id'=>bif id'==id then K (.map id) else none | _=>none
  | .nilp => match v with | .con u => match u with | .pointer a => match a with | none => K (.con (.pointer none)) | some _ => none
                                                   | _=>none
                          | _=>none
def fitCs :List CP→List V→(List V→Option R)→Option R
 | [],vs,K=>match vs with | []=>K [] | _::_=>none
 | p::ps,vs,K=>match vs with
  | v::vs=>fitC p v fun u=>fitCs ps vs fun us=>K (u::us)
  | []=>none
def fitP0(p:VP0)(v:V)(K:V→Option R) :Option R:=
 match p with
 | .t p=>match v with | .t x=>fitT p x fun u=>K (.t u) | _=>none
 | .buf id=>fitC (.buf id) v K
 | .ptr id i o=>fitC (.ptr id i o) v K
 | .map id=>fitC (.map id) v K
 | .nilp=>fitC .nilp v K
 | .agg ps=>match v with | .agg vs=>fitCs ps vs fun us=>K (.agg us) | _=>none
def fitP0s :List VP0→List V→(List V→Option R)→Option R
 | [],vs,K=>match vs with | []=>K [] | _::_=>none
 | p::ps,vs,K=>match vs with
  | v::vs=>fitP0 p v fun u=>fitP0s ps vs fun us=>K (u::us)
  | []=>none
def fitP(p:VP)(v:V)(K:V→Option R) :Option R:=
 match p with
 | .one p=>fitP0 p v K
 | .tup ps=>match v with | .tup vs=>fitP0s ps vs fun us=>K (.tup us) | _=>none
def fitB(p:BP)(b:Blk)(K:Blk→Option R) :Option R:=
 match p with
 | .arr s=>match b with | .arr own sz nn l=>bif own &&sz==s then K (.arr true s nn l) else none | _=>none
 | .var ps=>match b with | .var cs=>fitCs ps cs fun us=>K (.var us) | _=>none
 | .av=>match b with | .av l=>K (.av l) | _=>none
 | .map=>match b with | .map es=>K (.map es) | _=>none
def fitBs :List (Nat×BP)→Bs→(Bs→Option R)→Option R
 | [],bs,K=>match bs with | []=>K [] | _::_=>none
 | (i,p)::ps,bs,K=>match bs with
  | (j,b)::bs=>bif j==i then fitB p b fun b=>fitBs ps bs fun bs=>K ((i,b)::bs) else none
  | []=>none
def bare1 :TP1→Bool
 | .int _ | .bool | .str=>true
 | _=>false
def bare0 :VP0→Bool
 | .t (.one p)=>bare1 p
 | .t (.agg ps)=>ps.all bare1
 | .nilp=>true
 | _=>false
def bareP :VP→Bool
 | .one p=>bare0 p
 | .tup ps=>ps.all bare0
def cpz(p:CP)(z:Value) :Bool:=
 match p with
 | .t p=>tpz1 p z
 | .buf _=>(match z with | .slice none n c=>n==0 &&c==0 | _=>false)
 | .ptr .. =>(match z with | .pointer none=>true | _=>false)
 | .nilp=>(match z with | .pointer none=>true | _=>false)
 | .map _=>(match z with | .map none=>true | _=>false)
def cpzs :List CP→List Value→Bool
 | [],[]=>true
 | p::ps,z::zs=>cpz p z &&cpzs ps zs
 | _,_=>false
def vpz0(p:VP0)(z:Value) :Bool:=
 match p with
 | .t p=>tpz p z
 | .agg ps=>(match z with | .agg zs=>cpzs ps zs.toList | _=>false)
 | .buf _=>(match z with | .slice none n c=>n==0 &&c==0 | _=>false)
 | .ptr .. =>(match z with | .pointer none=>true | _=>false)
 | .nilp=>(match z with | .pointer none=>true | _=>false)
 | .map _=>(match z with | .map none=>true | _=>false)
def vpzs :List VP0→List Value→Bool
 | [],[]=>true
 | p::ps,z::zs=>vpz0 p z &&vpzs ps zs
 | _,_=>false
def vpz(p:VP)(z:Option Value) :Bool:=
 match z with
 | none=>true
 | some z=>match p with
  | .one p=>vpz0 p z
  | .tup ps=>match z with | .tuple zs=>vpzs ps zs.toList | _=>false
def outOf(P:Program)(t:TypeId) :VP:=
 match P.underlying t with
 | some (.tuple ts)=> .tup (ts.toList.map fun t=>match tpOf P t with | some p=> .t p | none=> .nilp)
 | _=>match tpOf P t with | some p=> .one (.t p) | none=> .one .nilp
def argC(own:Nat)(mid:Nat)(v:V)(st:St)(K:V→St→Option R) :Option R:=
 match own with
 | 0=>K v st
 | s+1=>toBuf st mid s v K
def argsC :Nat→List V→List Nat→St→(List V→St→Option R)→Option R
 | _,[],_,st,K=>K [] st
 | i,v::vs,own,st,K=>argC (own.headD 0) (6000+i) v st fun u st=>argsC (i+1) vs own.tail st fun us st=>K (u::us) st
def lent :List V→List Nat→List Nat
 | [],_=>[]
 | v::vs,own=>(bif own.headD 0==0 then v.bufs else [])++lent vs own.tail
def preC(as:List V) :List (Nat×Nat×Nat)→St→(St→Option R)→Option R
 | [],st,K=>K st
 | (i,c,s)::r,st,K=>match as[i]? with
  | some v=>cellC st v (6500+20*i+c) c (s+2) fun st=>preC as r st K
  | none=>none
def backN(met:List Nat)(key:Nat)(bs:Bs)(j:Nat) :Option Nat:=match bs.get j with
 | some _=>bif Nat.ble 500 j then some (10000*(key+1)+j) else bif Nat.ble 8 j then none else met[j]?
 | none=>none
def delAll(bs:Bs) :List Nat→Bs
 | []=>bs
 | id::ids=>delAll (bs.del id) ids
def newIds(met:List Nat)(key:Nat) :List (Nat×BP)→List Nat
 | []=>[]
 | (j,_)::r=>bif Nat.ble 500 j then (10000*(key+1)+j)::newIds met key r else newIds met key r
abbrev CallF :=FuncId→Nat→List V→St→Option (V×St)
def fitsH(o:VP)(bl:List (Nat×BP))(v:V)(bs:Bs) :Bool:=(fitP o v fun _=>fitBs bl bs fun _=>some ()).isSome
def tryH{R:Type}(v:V)(bs:Bs)(K:VP→List (Nat×BP)→Option R) :VP→List (Nat×BP)→List (VP×List (Nat×BP))→Option R
 | o,bl,[]=>K o bl
 | o,bl,a::l=>bif fitsH o bl v bs then K o bl else tryH v bs K a.1 a.2 l
def callH(P:Program)(call:CallF)(h:CallH)(key:Nat)(alone:Option (List Nat))(g:FuncId)(as:List V)(t:TypeId)(st:St)(K:V→St→Option R) :Option R:=
 match P.info? t with
 | none=>none
 | some i=>needC (vpz h.out i.zero &&h.alt.all fun a=>vpz a.1 i.zero) fun _=>argsC 0 as h.own st fun us st=>preC us h.pre st fun st=>
  let bsf:=st.blks.freeze (lent us h.own)
  let met:=reach bsf 200 (us.flatMap refs2) []
  needC (aloneOk alone bsf met &&Nat.ble met.length 8 &&met.all fun id=> !rowsAt bsf id) fun _=>
  (call g h.w (us.map (ren2 (pos met 0) bsf)) ⟨packB (pos met 0) bsf met,[]⟩).bind fun r=>
  tryH r.1 r.2.blks (fun out blks=>needC ((newIds met key blks).all (fun id=> !(st.used.contains id))) fun _=>
  fitP out r.1 fun v=>fitBs blks r.2.blks fun bs=>
   K (ren3 (backN met key bs) bs v) ⟨packB (backN met key bs) bs (bs.map (·.1))++delAll (bif bareP out &&blks.isEmpty then st.blks else bsf) met,newIds met key blks++st.used⟩) h.out h.blks h.alt
def callV(P:Program)(H:Hint)(call:CallF)(f w rid idx key:Nat)(alone:Option (List Nat))(fv:V)(args:List V)(t:TypeId)(st:St)(K:V→St→Option R) :Option R:=
 match fv with
 | .fn g first caps=>callH P call ((H.call f w rid idx).getD {out:=outOf P t}) key alone g (first++args++caps) t st K
 | _=>none
/-! ### operations -/
def subX(p:TP)(off:Nat)(x:T)(K:T→Option R) :Option R:=
 match x with
 | .agg cs=>match p with
  | .one q=>getT cs off fun y=>fitT1 q y K
  | .agg ps=>fitTs ps ((cs.drop off).take ps.length) fun us=>K (.agg us)
 | _=>none
def subV(p:TP)(off:Nat)(x:V)(K:V→Option R) :Option R:=
 match x with
 | .t x=>subX p off x fun u=>K (.t u)
 | .agg cs=>match p with
  | .one q=>getV cs off fun y=>fitV1 q y K
  | .agg ps=>fitVs ps ((cs.drop off).take ps.length) fun us=>K (aggV us)
 | _=>none
def elemT(p:TP)(l:List T)(j:Int)(K:T→Option R) :Option R:=needC (decide (0≤j)) fun _=>getT l j.toNat fun x=>fitT p x K
def lenS(bs:Bs)(v:V)(K:Nat→Option R) :Option R:=
 match v with
 | .t x=>match x with | .list _ _ l=>K l.length | _=>none
 | .buf id=>match bs.get id with
  | some b=>match b with | .arr _ _ _ l=>K l.length | .rows _ l=>K l.length | _=>none
  | none=>none
 | _=>none
def lenV(P:Program)(ts:List TypeId)(args:List V)(st:St)(K:V→Option R) :Option R:=
 match ts,args with
 | [t],[x]=>match P.underlying t with
  | some .string=>asStrV x fun s=>K (.t (.int .i64 s.size))
  | some (.slice _)=>lenS st.blks x fun n=>K (.t (.int .i64 n))
  | some (.array n _)=>K (.t (.int .i64 n))
  | some (.map _ _)=>mapC st.blks x fun _ es=>K (.t (.int .i64 es.length))
  | _=>none
 | _,_=>none
def appV(P:Program)(id:Nat)(ts:List TypeId)(args:List V)(st:St)(K:V→St→Option R) :Option R:=
 match ts,args with
 | [t,tx],[sl,x]=>elemC P t fun e=>sizeC P e fun s=>zeroC P e fun z=>needC (decide (z.cells.size=s)) fun _=>match P.info? e with
  | some i=>match P.underlying tx with
   | some (.slice _)=>srcV st.blks s x false fun xs=>appendV st id s i.bytes sl xs K
   | some .string=>srcV st.blks s x true fun xs=>appendV st id s i.bytes sl xs K
   | _=>none
  | none=>none
 | _,_=>none
def copyV(P:Program)(ts:List TypeId)(args:List V)(st:St)(K:V→St→Option R) :Option R:=
 match ts,args with
 | [t,tx],[dst,x]=>elemC P t fun e=>sizeC P e fun s=>match P.underlying tx with
  | some (.slice _)=>srcV st.blks s x false fun xs=>match dst with
   | .buf id=>match st.blks.get id with
    | some b=>match b with
     | .arr own sz nn l=>needC (own &&nn &&sz==s) fun _=>K (.t (.int .i64 (Nat.min xs.length l.length))) ⟨st.blks.set id (.arr own sz nn (xs.take (Nat.min xs.length l.length)++l.drop (Nat.min xs.length l.length))),st.used⟩
     | _=>none
    | none=>none
   | _=>none
  | _=>none
 | _,_=>none
def mostsV(big:Bool)(l:List V)(K:V→Option R) :Option R:=
 match l with
 | []=>none
 | x::r=>asIntV x fun k a=>mostV big k a r K
def delV(P:Program)(ts:List TypeId)(args:List V)(st:St)(K:V→St→Option R) :Option R:=
 match ts,args with
 | t::_,[m,k]=>mapTypeC P t fun kt _=>keyV k fun key=>needC (keyKindT P kt key) fun _=>mapC st.blks m fun id es=>match lookT es key with
  | some _=>K (.tup []) ⟨st.blks.set id (.map (dropT es key)),st.used⟩
  | none=>none
 | _,_=>none
def opV(P:Program)(H:Hint)(call:CallF)(f w rid idx:Nat)(alone:Option (List Nat))(ev:Operand→V)(o:Oper)(st:St)(K:V→St→Option R) :Option R:=
 let key:=match o.dst with | some d=>d | none=>900+idx
 match o.op with
 | .move x=>K (evT P o.type ev x) st
 | .assign x=>K (evT P o.type ev x) st
 | .pick c a b=>asBoolV (ev c) fun t=>match t with | true=>K (evT P o.type ev a) st | false=>K (evT P o.type ev b) st
 | .alloc t=>tpC P t fun p z=>match P.underlying t,zeroV p z with
   | some (.array _ _), .t x=>st.mint (1000+key) (.av x.cells) fun st=>K (.ptr (1000+key) 0 0) st
   | _,v=>st.mint (1000+key) (.var v.cells) fun st=>K (.ptr (1000+key) 0 0) st
 | .box t x=>match evT P t ev x with
   | v=>needC (v.cells.all okV) fun _=>match P.underlying t,v with
    | some (.array _ _), .t y=>st.mint (1000+key) (.av y.cells) fun st=>K (.ptr (1000+key) 0 0) st
    | _,v=>st.mint (1000+key) (.var v.cells) fun st=>K (.ptr (1000+key) 0 0) st
 | .build t parts=>buildV P t (parts.toList.map fun p=>(p.1,evT P (partTypes P t p.1) ev p.2)) fun v=>K v st
 | .buildSlice t n parts=>elemC P t fun e=>sizeC P e fun s=>needC (decide (n*s≤4096)) fun _=>tpC P e fun p z=>closedZero p z fun x0=>needC (decide (x0.cells.length=s)) fun _=>
   closeFs st (parts.toList.map fun p=>evT P e ev p.2) fun xs st=>needC (xs.all fun x=>decide (x.cells.length=s)) fun _=>
    putTs (List.replicate n x0) ((parts.toList.map (·.1)).zip xs) fun l=>st.mint (1000+key) (.arr true s true l) fun st=>K (.buf (1000+key)) st
 | .load t x=>tpC P t fun p _=>match ev x with
   | .pt y=>fitT p y fun u=>K (.t u) st
   | .ptr id i off=>match st.blks.get id with
    | some b=>ldB p b i off fun v=>K v st
    | none=>none
   | _=>none
 | .store t x v=>match ev x with
   | .ptr id i off=>needC (storeOk alone st.blks id) fun _=>sizeC P t fun s=>stB s st id i off (evT P t ev v) fun st=>K (.tup []) st
   | _=>none
 | .nilCheck x=>match ev x with
   | .ptr id i off=>K (.ptr id i off) st
   | .pt y=>K (.pt y) st
   | .fn g f c=>K (.fn g f c) st
   | _=>none
 | .binOp op t x y _=>binV st.blks op (P.underlying t) (H.eqt t) (ev x) (ev y) fun v=>K v st
 | .unOp op _ x=>unV op (ev x) fun v=>K v st
 | .convert s d x=>convV P st.blks s d (ev x) fun v=>K v st
 | .makeFunc fn first captured=>match fn with
   | .func g=>K (.fn g (first.toList.map ev) (captured.toList.map ev)) st
   | _=>none
 | .makeMap t none=>mapTypeC P t fun _ _=>st.mint (1000+key) (.map []) fun st=>K (.map (1000+key)) st
 | .makeSlice t l c=>elemC P t fun e=>match P.info? e with
   | some i=>tpC P e fun p z=>closedZero p z fun x0=>asIntV (ev l) fun _ n=>asIntV (ev c) fun _ m=>
     needC (decide (0≤n) &&decide (n≤m) &&decide (m*(i.bytes+1)≤70368744177664)) fun _=>needC (decide (x0.cells.length=i.size)) fun _=>
      st.mint (1000+key) (.arr true i.size true (List.replicate n.toNat x0)) fun st=>K (.buf (1000+key)) st
   | none=>none
 | .slice t x lo hi none=>match P.underlying t with
   | some .string=>asStrV (ev x) fun s=>
     needC (decide (0≤(lo.map fun v=>boundV (valOf (ev v))).getD 0) &&decide ((lo.map fun v=>boundV (valOf (ev v))).getD 0≤(hi.map fun v=>boundV (valOf (ev v))).getD s.size) &&decide ((hi.map fun v=>boundV (valOf (ev v))).getD s.size≤(s.size:Int))) fun _=>
      K (.t (.str (s.extract ((lo.map fun v=>boundV (valOf (ev v))).getD 0).toNat ((hi.map fun v=>boundV (valOf (ev v))).getD s.size).toNat))) st
   | some (.slice e)=>sizeC P e fun s=>sliceB (H.cut f w rid idx) st (1000+key) s (ev x) (lo.map fun v=>boundV (valOf (ev v))) (hi.map fun v=>boundV (valOf (ev v))) K
   | _=>none
 | .fieldAddr t x fi=>fieldC P t fi fun fd=>sizeC P fd.type fun s=>needC (!decide (s=0)) fun _=>match ev x with
   | .ptr id i off=>K (.ptr id i (off+fd.offset)) st
   | .pt y=>tpC P fd.type fun p _=>subX p fd.offset y fun u=>K (.pt u) st
   | _=>none
 | .field t x fi=>fieldC P t fi fun fd=>tpC P fd.type fun p _=>subV p fd.offset (ev x) fun v=>K v st
 | .indexAddr t x i=>match P.underlying t with
   | some (.slice e)=>sizeC P e fun s=>asIntV (ev i) fun _ j=>match ev x with
    | .t y=>match y with
     | .list sz _ l=>needC (sz==s) fun _=>tpC P e fun p _=>elemT p l j fun u=>K (.pt u) st
     | _=>none
    | .buf id=>match st.blks.get id with
     | some b=>match b with
      | .arr _ sz _ l=>needC (sz==s &&decide (0≤j) &&decide (j<(l.length:Int))) fun _=>K (.ptr id j.toNat 0) st
      | .rows _ l=>needC (1==s &&decide (0≤j) &&decide (j<(l.length:Int))) fun _=>K (.ptr id j.toNat 0) st
      | _=>none
     | none=>none
    | _=>none
   | some (.array n e)=>sizeC P e fun s=>asIntV (ev i) fun _ j=>needC (decide (0≤j) &&decide (j<(n:Int))) fun _=>match ev x with
    | .ptr id k off=>K (.ptr id k (off+j.toNat*s)) st
    | .pt y=>tpC P e fun p _=>subX p (j.toNat*s) y fun u=>K (.pt u) st
    | _=>none
   | _=>none
 | .index t x i=>match P.underlying t with
   | some .string=>asStrV (ev x) fun s=>asIntV (ev i) fun _ j=>needC (decide (0≤j) &&decide (j<(s.size:Int))) fun _=>K (.t (.int .u8 (s[j.toNat]!).toNat)) st
   | some (.array n e)=>sizeC P e fun s=>asIntV (ev i) fun _ j=>needC (decide (0≤j) &&decide (j<(n:Int))) fun _=>tpC P e fun p _=>subV p (j.toNat*s) (ev x) fun v=>K v st
   | _=>none
 | .lookup t x i ok=>lookV P t (ev x) (ev i) ok st.blks fun v=>K v st
 | .mapUpdate t m k v=>mapTypeC P t fun kt e=>keyV (ev k) fun key=>needC (keyKindT P kt key) fun _=>closeF st (evT P e ev v) fun x st=>mapC st.blks (ev m) fun id es=>
   tpC P e fun p _=>fitT p x fun x=>match lookT es key with
    | some _=>K (.tup []) ⟨st.blks.set id (.map (putT es key x)),st.used⟩
    | none=>none
 | .extract x i=>match ev x with
   | .tup vs=>getV vs i fun v=>K v st
   | _=>none
 | .call {callee:= .builtin b,args,argTypes}=>match b with
   | .len=>lenV P argTypes.toList (args.toList.map ev) st fun v=>K v st
   | .append=>needC (appOk alone st.blks (headV ((args.toList.zip argTypes.toList).map fun x=>evT P x.2 ev x.1)) &&Nat.ble args.toList.length argTypes.toList.length) fun _=>appV P (1000+key) argTypes.toList ((args.toList.zip argTypes.toList).map fun x=>evT P x.2 ev x.1) st K
   | .copy=>copyV P argTypes.toList (args.toList.map ev) st K
   | .min=>mostsV false (args.toList.map ev) fun v=>K v st
   | .max=>mostsV true (args.toList.map ev) fun v=>K v st
   | .delete=>delV P argTypes.toList (args.toList.map ev) st K
   | _=>none
 | .call {callee:= .value fv,args,argTypes}=>needC (Nat.ble args.toList.length argTypes.toList.length) fun _=>callV P H call f w rid idx key alone (ev fv) ((args.toList.zip argTypes.toList).map fun x=>evT P x.2 ev x.1) o.type st K
 | .insert t m k v=>mapTypeC P t fun kt e=>keyV (ev k) fun key=>needC (keyKindT P kt key) fun _=>closeF st (evT P e ev v) fun x st=>mapC st.blks (ev m) fun id es=>
   tpC P e fun p _=>fitT p x fun x=>match lookT es key with
    | some _=>K (.tup []) ⟨st.blks.set id (.map (putT es key x)),st.used⟩
    | none=>none
 | _=>none
end
end Go.Proofs.Ytpfploolkmcalaa.VM
end
section
namespace Go.Proofs.Ytpfploolkmcalaa.VM
set_option linter.unusedVariables false
set_option linter.unusedSimpArgs false
set_option linter.unusedSectionVars false
open Go AM
section
variable (P:Program) (H:Hint) (call:CallF)
def guardV{R:Type}(ops:Array Oper)(o:Oper)(e:Env)(yes no:Env→Option R) :Option R:=
 match o.guard with
 | none=>yes e
 | some (g,want)=>match (ops[g]?).bind (·.dst) with
  | some d=>match e.get d with
   | .t x=>match x with
    | .bool b=>match b with
     | true=>match want with | true=>yes ((d, .t (.bool true))::e) | false=>no ((d, .t (.bool true))::e)
     | false=>match want with | true=>no ((d, .t (.bool false))::e) | false=>yes ((d, .t (.bool false))::e)
    | _=>none
   | .tup vs=>bif vs.isEmpty then no e else none
   | _=>none
  | none=>none
/-! ### rows -/
def rowOf(x:T) :RowV:=
 match x with
 | .list s nn l=>bif !nn &&l.isEmpty then .own false [] else .tree (.list s nn l)
 | .agg _=> .gone
 | x=> .tree x
def rowC{R:Type}(l:List RowV)(i:Nat)(K:Bool→List T→Option R) :Option R:=
 match l[i]? with
 | some x=>match x with | .own nn c=>K nn c | _=>none
 | none=>none
def rowLoad{R:Type}(P:Program)(t:TypeId)(id':Nat)(st:St)(id sz:Nat)(l:List RowV)(i off:Nat)(K:V→St→Option R) :Option R:=
 tpC P t fun p _=>match p with
  | .one q=>match q with
   | .list s=>needC (s==sz &&off==0) fun _=>rowC l i fun nn c=>St.mint ⟨st.blks.set id (.rows sz (l.set i .gone)),st.used⟩ id' (.arr true sz nn c) fun st=>K (.buf id') st
   | _=>none
  | _=>none
def rowStore{R:Type}(P:Program)(t:TypeId)(st:St)(id sz:Nat)(l:List RowV)(i off:Nat)(v:V)(K:V→St→Option R) :Option R:=
 sizeC P t fun s=>needC (s==1 &&off==0 &&decide (i<l.length)) fun _=>match v with
  | .buf id'=>match st.blks.get id' with
   | some b=>match b with
    | .arr own s' nn c=>needC (own &&s'==sz) fun _=>K (.tup []) ⟨(st.blks.del id').set id (.rows sz (l.set i (.own nn c))),st.used⟩
    | _=>none
   | none=>none
  | _=>none
def toRows{R:Type}(P:Program)(t:TypeId)(st:St)(v:V)(K:V→St→Option R) :Option R:=
 elemC P t fun e=>elemC P e fun e2=>sizeC P e2 fun s=>match v with
  | .buf id=>match st.blks.get id with
   | some b=>match b with
    | .arr own sz nn l=>needC (own &&nn &&sz==1 &&noRows st.blks) fun _=>K (.buf id) ⟨st.blks.set id (.rows s (l.map rowOf)),st.used⟩
    | _=>none
   | none=>none
  | _=>none
def rowApp{R:Type}(P:Program)(id':Nat)(ts:List TypeId)(x:V)(st:St)(id sz:Nat)(l:List RowV)(K:V→St→Option R) :Option R:=
 match ts with
 | [t,tx]=>elemC P t fun e=>sizeC P e fun s=>zeroC P e fun z=>needC (decide (z.cells.size=s)) fun _=>match P.info? e with
  | some i=>match P.underlying tx with
   | some (.slice _)=>srcV st.blks s x false fun xs=>needC (s==1 && !xs.isEmpty &&decide ((l.length+xs.length)*(i.bytes+1)≤70368744177664) &&decide (i.bytes≤1048576)) fun _=>
     St.mint ⟨st.blks.del id,st.used⟩ id' (.rows sz (l++xs.map rowOf)) fun st=>K (.buf id') st
   | _=>none
  | none=>none
 | _=>none
def rowsId(bs:Bs)(v:V) :Option (Nat×Nat×List RowV):=
 match v with
 | .buf id=>match bs.get id with
  | some b=>match b with | .rows sz l=>some (id,sz,l) | _=>none
  | none=>none
 | .ptr id _ _=>match bs.get id with
  | some b=>match b with | .rows sz l=>some (id,sz,l) | _=>none
  | none=>none
 | _=>none
def opX{R:Type}(f w rid idx:Nat)(ev:Operand→V)(o:Oper)(st:St)(K:V→St→Option R) :Option R:=
 let key:=match o.dst with | some d=>d | none=>900+idx
 match o.op with
 | .load t x=>match rowsId st.blks (ev x) with
  | some r=>match ev x with | .ptr id i off=>rowLoad P t (1000+key) st r.1 r.2.1 r.2.2 i off K | _=>none
  | none=>opV P H call f w rid idx none ev o st K
 | .store t x v=>match rowsId st.blks (ev x) with
  | some r=>match ev x with | .ptr id i off=>rowStore P t st r.1 r.2.1 r.2.2 i off (ev v) K | _=>none
  | none=>opV P H call f w rid idx none ev o st K
 | .makeSlice t _ _=>bif H.cut f w rid idx then opV P H call f w rid idx none ev o st fun v st=>toRows P t st v K else opV P H call f w rid idx none ev o st K
 | .buildSlice t _ _=>bif H.cut f w rid idx then opV P H call f w rid idx none ev o st fun v st=>toRows P t st v K else opV P H call f w rid idx none ev o st K
 | .call {callee:= .builtin .append,args,argTypes}=>match args.toList with
  | [sl,x]=>match rowsId st.blks (ev sl) with
   | some r=>match ev sl with | .buf _=>rowApp P (1000+key) argTypes.toList (ev x) st r.1 r.2.1 r.2.2 K | _=>none
   | none=>opV P H call f w rid idx none ev o st K
  | _=>opV P H call f w rid idx none ev o st K
 | _=>opV P H call f w rid idx none ev o st K
def lenV1(o:Oper)(ev:Operand→V) :Bool:=
 match o.op with
 | .call {callee:= .builtin .len,args, .. }=>match args.toList.map ev with
  | [.t _]=>true
  | [.buf _]=>true
  | _=>false
 | _=>true
def opsV{R:Type}(ch:Bool)(f w rid:Nat)(ops:Array Oper) :List Oper→Nat→Env→St→(Env→St→Option R)→Option R
 | [],_,e,st,K=>K e st
 | o::rest,i,e,st,K=>guardV ops o e
   (fun e=>needC (!ch || lenV1 o (evV e)) fun _=>opX P H call f w rid i (evV e) o st fun v st'=>opsV ch f w rid ops rest (i+1) (e.put o.dst v) st' K)
   (fun e=>opsV ch f w rid ops rest (i+1) (e.put o.dst (.tup [])) st K)
def readOnly(o:Oper)(ev:Operand→V) :Bool:=
 match o.op with
 | .slice _ x _ _ _=>match ev x with | .buf _=>false | .agg _=>false | _=>true
 | _=>true
def lenArg(o:Oper) :Option Nat:=
 match o.op with
 | .call {callee:= .builtin .len,args, .. }=>match args.toList with
  | [x]=>match x with | .tmp t=>some t | _=>none
  | _=>none
 | _=>none
def isTree(v:V) :Bool:=match v with | .t _=>true | _=>false
def readC{R:Type}(o:Oper)(e:Env)(st:St)(sts:List St)(k nh:Nat)(K:Env→St→Option R) :Option R:=
 bif k==nh then K e st else match o.op with
  | .load _ a=>match a with
   | .tmp t=>match e.get t with
    | .ptr id i off=>match sts[k]? with
     | some s0=>bif (s0.blks.get id).isSome then K [(t, .ptr id i off)] s0 else none
     | none=>none
    | _=>none
   | _=>none
  | _=>match lenArg o with
   | some t=>bif isTree (e.get t) then K e st else none
   | none=>none
def readId(o:Oper)(e:Env) :Option Nat:=
 match o.op with
 | .load _ x=>match x with
  | .tmp t=>match e.get t with
   | .ptr id _ _=>some id
   | _=>none
  | _=>none
 | _=>none
def noteV(o:Oper)(i:Nat)(e:Env)(rs:List (Nat×Nat)) :List (Nat×Nat):=match readId o e with | some id=>(i,id)::rs | none=>rs
def lookR :List (Nat×Nat)→Nat→Option Nat
 | [],_=>none
 | (i,id)::rs,j=>bif i==j then some id else lookR rs j
def lookRs(rs:List (Nat×Nat)) :List Nat→Option (List Nat)
 | []=>some []
 | i::l=>match lookR rs i,lookRs rs l with
  | some id,some ids=>some (id::ids)
  | _,_=>none
def unordered(ops:Array Oper)(j:Nat) :List Nat:=(List.range ops.size).filter fun i=>((ops[i]?).map readsM).getD false && !((Region.before ops).getD j 0).testBit i && !((Region.before ops).getD i 0).testBit j
def asideV(ops:Array Oper)(j:Nat)(rs:List (Nat×Nat)) :Option (List Nat):=
 bif besideRead ops j then some ((lookRs rs (unordered ops j)).getD []) else none
def drawV{R:Type}(f w rid:Nat)(ops:Array Oper) :List Oper→Nat→Env→St→Nat→List St→List (Nat×Nat)→(Env→St→Option R)→Option R
 | [],_,e,st,_,_,_,K=>K e st
 | o::rest,i,e,st,hs,sts,rs,K=>guardV ops o e
   (fun e=>match cls o with
    | .pure=>opV P H call f w rid i none (evV e) o st fun v _=>drawV f w rid ops rest (i+1) (e.put o.dst v) st hs sts rs K
    | .reads=>readC o e st sts (actsAhead ops i) hs fun e' st'=>needC (readOnly o (evV e') &&lenV1 o (evV e')) fun _=>opV P H call f w rid i none (evV e') o st' fun v _=>drawV f w rid ops rest (i+1) (e.put o.dst v) st hs sts (noteV o i e rs) K
    | .acts=>opV P H call f w rid i (asideV ops i rs) (evV e) o st fun v st'=>drawV f w rid ops rest (i+1) (e.put o.dst v) st' (hs+1) (sts++[st']) rs K)
   (fun e=>drawV f w rid ops rest (i+1) (e.put o.dst (.tup [])) st (bif actsB o then hs+1 else hs) (bif actsB o then sts++[st] else sts) rs K)
def nrm(f w:Nat)(c:Code)(e:Env)(st:St) :Env×St:=
 match firstId c with
 | some id=>match H.norm f w id with
  | some n=>match normC n e st fun e st=>some (e,st) with
   | some x=>x
   | none=>([],st)
  | none=>(e,st)
 | none=>(e,st)
abbrev normE{R:Type}(f w:Nat)(c:Code)(e:Env)(st:St)(K:Env→St→Option R) :Option R:=K (nrm H f w c e st).1 (nrm H f w c e st).2
def rounds(f w:Nat)(c:Code) :Nat:=match firstId c with | some id=>H.unroll f w id | none=>0
def seqV{R:Type}(next:Env→St→Option R)(K:Ex→Env→St→Option R) :Ex→Env→St→Option R
 | .normal,e,st=>next e st
 | .exit i,e,st=>K (.exit i) e st
 | .ret,e,st=>K .ret e st
def blockV{R:Type}(id:Nat)(K:Ex→Env→St→Option R) :Ex→Env→St→Option R
 | .normal,e,st=>K .normal e st
 | .exit i,e,st=>bif i==id then K .normal e st else K (.exit i) e st
 | .ret,e,st=>K .ret e st
abbrev Out :=Ex×Env×St
def loopVN(D:Env→St→Option Out) :Nat→Env→St→Option Out
 | 0,_,_=>none
 | n+1,e,st=>(D e st).bind fun r=>match r with
  | (.normal,e',st')=>loopVN D n e' st'
  | r=>some r
noncomputable def loopVD(D:Env→St→Option Out)(e:Env)(st:St) :Option Out:=lfp fun n=>loopVN D n e st
def iterU{R:Type}(B:Env→St→(Ex→Env→St→Option R)→Option R)(K:Ex→Env→St→Option R) :Nat→Env→St→Option R
 | 0,_,_=>none
 | n+1,e,st=>B e st (seqV (fun e st=>iterU B K n e st) K)
noncomputable def codeV(f w nt:Nat) :(R:Type)→(Ex→Env→St→Option R)→Env→St→Code→Option R
 | _,K,e,st, .skip=>K .normal e st
 | _,K,e,st, .label _=>K .normal e st
 | _,K,e,st, .exit id=>K (.exit id) e st
 | _,K,e,st, .ret=>K .ret e st
 | _,K,e,st, .region rid ops draw=>bif dstsOk nt ops then
   (bif draw then (bif okDraw ops then (bif noRows st.blks then drawV P H call f w rid ops ops.toList 0 e st 0 [st] [] (K .normal)
    else bif plainDraw ops then opsV P H call true f w rid ops ops.toList 0 e st (K .normal) else none) else none)
   else opsV P H call false f w rid ops ops.toList 0 e st (K .normal)) else none
 | R,K,e,st, .seq a b=>codeV f w nt R (seqV (fun e' st'=>normE H f w b e' st' fun e' st'=>codeV f w nt R K e' st' b) K) e st a
 | R,K,e,st, .cond c a b=>match c with
  | .tmp t=>match e.get t with
   | .t x=>match x with
    | .bool v=>match v with
     | true=>normE H f w a ((t, .t (.bool true))::e) st fun e st=>codeV f w nt R K e st a
     | false=>normE H f w b ((t, .t (.bool false))::e) st fun e st=>codeV f w nt R K e st b
    | _=>none
   | _=>none
  | .const (.bool v)=>match v with
   | true=>normE H f w a e st fun e st=>codeV f w nt R K e st a
   | false=>normE H f w b e st fun e st=>codeV f w nt R K e st b
  | _=>none
 | R,K,e,st, .block id b=>codeV f w nt R (blockV id K) e st b
 | R,K,e,st, .scope b=>codeV f w nt R K e st b
 | R,K,e,st, .loop b=>match rounds H f w b with
  | 0=>(loopVD (fun e st=>codeV f w nt Out (seqV (fun e st=>normE H f w b e st fun e st=>some (.normal,e,st)) fun ex e st=>some (ex,e,st)) e st b) e st).bind fun r=>K r.1 r.2.1 r.2.2
  | n+1=>iterU (fun e st K=>codeV f w nt R (seqV (fun e st=>normE H f w b e st (K .normal)) K) e st b) K (n+1) e st
 | _,_,_,_,_=>none
def resV{R:Type}(st:St)(e:Env) :List ResultVar→(List V→Option R)→Option R
 | [],K=>K []
 | .tmp t::rs,K=>resV st e rs fun vs=>K (e.get t::vs)
 | .cell a t::rs,K=>match e.get a with
  | .ptr id i off=>match st.blks.get id with
   | some b=>tpC P t fun p _=>ldB p b i off fun u=>resV st e rs fun vs=>K (u::vs)
   | none=>none
  | _=>none
def formsC{R:Type} :Nat→List V→Nat→St→(List V→St→Option R)→Option R
 | _,[],_,st,K=>K [] st
 | mid,v::vs,k,st,K=>formC (k % 100) mid v st fun u st=>formsC (mid+1) vs (k / 100) st fun us st=>K (u::us) st
def outAggC{R:Type}(k mid:Nat)(v:V)(st:St)(K:V→St→Option R) :Option R:=
 match v with
 | .t x=>match x with
  | .agg cs=>formsC (20*mid - 129100) (cs.map .t) k st fun us st=>K (.agg us) st
  | _=>none
 | .agg cs=>formsC (20*mid - 129100) cs k st fun us st=>K (.agg us) st
 | _=>none
def outC{R:Type}(own mid:Nat)(v:V)(st:St)(K:V→St→Option R) :Option R:=
 match own with
 | 0=>match close st.blks v some with
  | some _=>closeF st v fun x st=>K (.t x) st
  | none=>K v st
 | s+1=>bif Nat.ble 999 s then outAggC (s - 999) mid v st K else toBuf st mid s v K
def outsC{R:Type} :Nat→List V→List Nat→St→(List V→St→Option R)→Option R
 | _,[],_,st,K=>K [] st
 | i,v::vs,own,st,K=>outC (own.headD 0) (6800+i) v st fun u st=>outsC (i+1) vs own.tail st fun us st=>K (u::us) st
def outN(met:List Nat)(id:Nat) :Option Nat:=bif Nat.ble 8 id then (pos (met.filter (Nat.ble 8)) 500 id) else bif met.contains id then some id else none
def treesOf(sz:Nat) :List RowV→Option (List T)
 | []=>some []
 | x::l=>match x with
  | .own nn c=>(treesOf sz l).map (.list sz nn c:: ·)
  | .tree y=>(treesOf sz l).map (y:: ·)
  | .gone=>none
def firstRows :Bs→Option Nat
 | []=>none
 | (id,b)::bs=>bif isRows b then some id else firstRows bs
def treesC{R:Type}(sz:Nat)(l:List RowV)(K:List T→Option R) :Option R:=match treesOf sz l with | some ts=>K ts | none=>none
def unrows{R:Type}(st:St)(K:St→Option R) :Option R:=
 match firstRows st.blks with
 | some id=>match st.blks.get id with
  | some b=>match b with
   | .rows sz l=>treesC sz l fun ts=>K ⟨st.blks.set id (.arr true 1 true ts),st.used⟩
   | _=>none
  | none=>none
 | none=>K st
def finV0(own:List Nat)(vs:List V)(st:St) :Option (V×St):=
 outsC 0 vs own st fun vs st=>
  let v:=match vs with | [v]=>v | vs=> .tup vs
  let met:=reach st.blks 200 (argIds st.blks++refs3 v) []
  some (ren3 (outN met) st.blks v,⟨packB (outN met) st.blks met,(List.range met.length).map (500+ ·)⟩)
def finV(own:List Nat)(vs:List V)(st:St) :Option (V×St):=unrows st fun st=>finV0 own vs st
def resKV(fn:Func)(own:List Nat) :Ex→Env→St→Option (V×St)
 | .exit _,_,_=>none
 | .normal,e,st=>resV P st e fn.results.toList fun vs=>finV own vs st
 | .ret,e,st=>resV P st e fn.results.toList fun vs=>finV own vs st
def envV :List V→Nat→Env
 | [],_=>[]
 | v::vs,i=>(i,v)::envV vs (i+1)
noncomputable def funV(f w:Nat)(args:List V)(st:St) :Option (V×St):=
 match P.funcs[f]? with
 | some fn=>match fn.body with
  | some c => bif fn.name == "runtime.NumGoroutine" || !noRows st.blks then none else normE H f w c (envV args 0) st fun e st' => codeV P H call f w (max args.length fn.ntmps) (V × St) (resKV P fn (H.own f w)) e st' c
  | none=>none
 | none=>none
end
noncomputable def vN(P:Program)(H:Hint) :Nat→CallF
 | 0=>fun _ _ _ _=>none
 | k+1=>fun f w args st=>bif H.isOv f then (match H.ov (vN P H k) f args with | some v=>bif st.blks.isEmpty then some (v,⟨[],[]⟩) else none | none=>none) else funV P H (vN P H k) f w args st
noncomputable def vrun(P:Program)(H:Hint)(f w:Nat)(args:List V)(st:St) :Option (V×St):=lfp fun k=>vN P H k f w args st
end Go.Proofs.Ytpfploolkmcalaa.VM
end
section
namespace Go.Proofs.Ytpfploolkmcalaa.VM
set_option linter.unusedVariables false
open Go AM
set_option linter.unusedSectionVars false
set_option linter.unusedSimpArgs false
section
variable {R S:Type} (G:R→Option S)
theorem fitT1_bind(p:TP1)(x:T)(K:T→Option R) :(fitT1 p x K).bind G=fitT1 p x fun u=>(K u).bind G:=by
 unfold fitT1; cases p <;>cases x <;>try rfl
 ·rename_i k k' n; dsimp only; cases decide (k'=k) <;>rfl
 ·rename_i k k' n l; dsimp only; cases k'==k <;>rfl
theorem fitTs_bind :∀(ps:List TP1) (xs:List T) (K:List T→Option R),(fitTs ps xs K).bind G=fitTs ps xs fun u=>(K u).bind G
 | [],[],K=>rfl
 | [],_::_,K=>rfl
 | _::_,[],K=>rfl
 | p::ps,x::xs,K=>by simp only [fitTs,fitT1_bind,fitTs_bind ps xs]
theorem fitT_bind(p:TP)(x:T)(K:T→Option R) :(fitT p x K).bind G=fitT p x fun u=>(K u).bind G:=by
 unfold fitT; cases p <;>simp only [fitT1_bind]
 cases x <;>simp only [fitTs_bind,Option.bind_none]
theorem fitV1_bind(p:TP1)(x:V)(K:V→Option R) :(fitV1 p x K).bind G=fitV1 p x fun u=>(K u).bind G:=by
 unfold fitV1; (repeat' split) <;>simp only [fitT1_bind,Option.bind_none]
theorem fitVs_bind :∀(ps:List TP1) (xs:List V) (K:List V→Option R),(fitVs ps xs K).bind G=fitVs ps xs fun u=>(K u).bind G
 | [],[],K=>rfl
 | [],_::_,K=>rfl
 | _::_,[],K=>rfl
 | p::ps,x::xs,K=>by simp only [fitVs,fitV1_bind,fitVs_bind ps xs]
variable (P:Program)
theorem tpC_bind(t:TypeId)(K:TP→Value→Option R) :(tpC P t K).bind G=tpC P t fun p z=>(K p z).bind G:=by
 unfold tpC; split <;>simp only [zeroC_bind,needC_bind,Option.bind_none]
theorem getT_bind(l:List T)(i:Nat)(K:T→Option R) :(getT l i K).bind G=getT l i fun x=>(K x).bind G:=by unfold getT; split <;>rfl
theorem getV_bind(l:List V)(i:Nat)(K:V→Option R) :(getV l i K).bind G=getV l i fun x=>(K x).bind G:=by unfold getV; split <;>rfl
theorem mint_bind(st:St)(id:Nat)(b:Blk)(K:St→Option R) :(st.mint id b K).bind G=st.mint id b fun x=>(K x).bind G:=by unfold St.mint; rw [needC_bind]
theorem contC_bind(bs:Bs)(v:V)(K:Nat→Bool→List T→Option R) :(contC bs v K).bind G=contC bs v fun a b c=>(K a b c).bind G:=by
 unfold contC; (repeat' split) <;>rfl
theorem close1_bind(bs:Bs)(v:V)(K:T→Option R) :(close1 bs v K).bind G=close1 bs v fun x=>(K x).bind G:=by
 unfold close1; split <;>simp only [contC_bind,Option.bind_none]
theorem closes_bind(bs:Bs) :∀(vs:List V) (K:List T→Option R),(closes bs vs K).bind G=closes bs vs fun x=>(K x).bind G
 | [],K=>rfl
 | v::vs,K=>by simp only [closes,close1_bind,needC_bind,closes_bind bs vs]
theorem close_bind(bs:Bs)(v:V)(K:T→Option R) :(close bs v K).bind G=close bs v fun x=>(K x).bind G:=by
 unfold close; split <;>simp only [close1_bind,closes_bind]
theorem closeF_bind(st:St)(v:V)(K:T→St→Option R) :(closeF st v K).bind G=closeF st v fun x st=>(K x st).bind G:=by
 unfold closeF; rw [close_bind]
theorem closeFs_bind :∀(vs:List V) (st:St) (K:List T→St→Option R),(closeFs st vs K).bind G=closeFs st vs fun x st=>(K x st).bind G
 | [],st,K=>rfl
 | v::vs,st,K=>by simp only [closeFs,closeF_bind,closeFs_bind vs]
theorem cond_bind{A:Type}(b:Bool)(x y:Option R)(G:R→Option A) :(bif b then x else y).bind G=bif b then x.bind G else y.bind G:=by cases b <;>rfl
theorem ldB_bind(p:TP)(b:Blk)(i off:Nat)(K:V→Option R) :(ldB p b i off K).bind G=ldB p b i off fun v=>(K v).bind G:=by
 unfold ldB; cases b <;>cases p <;>simp only [getT_bind,getV_bind,fitT_bind,fitT1_bind,fitTs_bind,fitV1_bind,fitVs_bind,needC_bind,Option.bind_none,cond_bind]
theorem setT_bind(l:List T)(i:Nat)(x:T)(K:List T→Option R) :(setT l i x K).bind G=setT l i x fun v=>(K v).bind G:=by unfold setT; rw [needC_bind]
theorem stT_bind(s:Nat)(b:Blk)(i off:Nat)(x:T)(K:Blk→Option R) :(stT s b i off x K).bind G=stT s b i off x fun b=>(K b).bind G:=by
 unfold stT; cases b <;>simp only [getT_bind,setT_bind,needC_bind,Option.bind_none,cond_bind]
theorem stB_bind(s:Nat)(st:St)(id i off:Nat)(v:V)(K:St→Option R) :(stB s st id i off v K).bind G=stB s st id i off v fun st=>(K st).bind G:=by
 unfold stB; (repeat' split) <;>simp only [needC_bind,closeF_bind,Option.bind_none]
 all_goals (congr 1; funext x st; split <;>simp only [stT_bind,Option.bind_none])
theorem eqlV_bind(op:BinOp)(b:Bool)(K:V→Option R) :(eqlV op b K).bind G=eqlV op b fun v=>(K v).bind G:=by cases op <;>rfl
theorem binV_bind(bs:Bs)(op:BinOp)(d:Option TypeDesc)(q:Option (List Value))(x y:V)(K:V→Option R) :(binV bs op d q x y K).bind G=binV bs op d q x y fun v=>(K v).bind G:=by
 unfold binV; (repeat' split) <;>simp only [needC_bind,contC_bind,eqlV_bind,binC_bind,Option.bind_none] <;>(repeat' split) <;>simp only [needC_bind,contC_bind,eqlV_bind,binC_bind,Option.bind_none] <;>
  (congr 1; funext _; (repeat' split) <;>simp only [eqlV_bind,Option.bind_none])
theorem asIntV_bind(v:V)(K:IntKind→Int→Option R) :(asIntV v K).bind G=asIntV v fun k n=>(K k n).bind G:=by unfold asIntV; (repeat' split) <;>rfl
theorem asStrV_bind(v:V)(K:ByteArray→Option R) :(asStrV v K).bind G=asStrV v fun n=>(K n).bind G:=by unfold asStrV; (repeat' split) <;>rfl
theorem asBoolV_bind(v:V)(K:Bool→Option R) :(asBoolV v K).bind G=asBoolV v fun n=>(K n).bind G:=by unfold asBoolV; (repeat' split) <;>rfl
theorem convV_bind(bs:Bs)(s d:TypeId)(x:V)(K:V→Option R) :(convV P bs s d x K).bind G=convV P bs s d x fun v=>(K v).bind G:=by
 unfold convV; (repeat' split) <;>simp only [asIntV_bind,asStrV_bind,needC_bind,contC_bind,Option.bind_none]
theorem unV_bind(op:UnOp)(x:V)(K:V→Option R) :(unV op x K).bind G=unV op x fun v=>(K v).bind G:=by unfold unV; rw [unC_bind]
theorem fillV_bind(pl:Nat→Option (Nat×Nat)) :∀(ps:List (Nat×V)) (cs:List V) (K:List V→Option R),(fillV pl cs ps K).bind G=fillV pl cs ps fun v=>(K v).bind G
 | [],cs,K=>rfl
 | (i,v)::r,cs,K=>by
  simp only [fillV]
  split
  ·simp only [needC_bind,fillV_bind pl r]
  ·rfl
theorem buildV_bind(t:TypeId)(ps:List (Nat×V))(K:V→Option R) :(buildV P t ps K).bind G=buildV P t ps fun v=>(K v).bind G:=by
 unfold buildV; rw [tpC_bind]; congr 1; funext p z
 (repeat' split) <;>simp only [sizeC_bind,fillV_bind,Option.bind_none]
theorem putTs_bind :∀(ps:List (Nat×T)) (l:List T) (K:List T→Option R),(putTs l ps K).bind G=putTs l ps fun v=>(K v).bind G
 | [],l,K=>rfl
 | (i,x)::r,l,K=>by simp only [putTs,needC_bind,putTs_bind r]
theorem cutL_bind(l:List T)(lo hi:Option Int)(K:List T→Option R) :(cutL l lo hi K).bind G=cutL l lo hi fun v=>(K v).bind G:=by unfold cutL; rw [needC_bind]
theorem srcV_bind(bs:Bs)(s:Nat)(x:V)(str:Bool)(K:List T→Option R) :(srcV bs s x str K).bind G=srcV bs s x str fun v=>(K v).bind G:=by
 unfold srcV; simp only [cond_bind,asStrV_bind,needC_bind,contC_bind]
theorem appendV_bind(st:St)(id s bytes:Nat)(sl:V)(xs:List T)(K:V→St→Option R) :(appendV st id s bytes sl xs K).bind G=appendV st id s bytes sl xs fun v st=>(K v st).bind G:=by
 unfold appendV; (repeat' split) <;>simp only [needC_bind,mint_bind,Option.bind_none]
theorem cutB_bind(st:St)(id s:Nat)(sl:V)(lo hi:Option Int)(K:V→St→Option R) :(cutB st id s sl lo hi K).bind G=cutB st id s sl lo hi fun v st=>(K v st).bind G:=by
 unfold cutB; (repeat' split) <;>simp only [needC_bind,mint_bind,Option.bind_none]
theorem sliceB_bind(cut:Bool)(st:St)(id s:Nat)(sl:V)(lo hi:Option Int)(K:V→St→Option R) :(sliceB cut st id s sl lo hi K).bind G=sliceB cut st id s sl lo hi fun v st=>(K v st).bind G:=by
 unfold sliceB
 cases cut with
 | true=>exact cutB_bind G st id s sl lo hi K
 | false=>
  simp only [cond_false,closeF_bind]
  congr 1
  funext y st
  split <;>simp only [needC_bind,cutL_bind,Option.bind_none]
theorem mapC_bind(bs:Bs)(m:V)(K:Nat→List (T×T)→Option R) :(mapC bs m K).bind G=mapC bs m fun a b=>(K a b).bind G:=by unfold mapC; (repeat' split) <;>rfl
theorem lkT_bind(es:List (T×T))(k z:T)(K:T→Bool→Option R) :(lkT es k z K).bind G=lkT es k z fun a b=>(K a b).bind G:=by unfold lkT; split <;>rfl
theorem keyV_bind(x:V)(K:T→Option R) :(keyV x K).bind G=keyV x fun a=>(K a).bind G:=by unfold keyV; split <;>rfl
theorem closedZero_bind(p:TP)(z:Value)(K:T→Option R) :(closedZero p z K).bind G=closedZero p z fun a=>(K a).bind G:=by unfold closedZero; split <;>rfl
theorem lookV_bind(t:TypeId)(m k:V)(ok:Bool)(bs:Bs)(K:V→Option R) :(lookV P t m k ok bs K).bind G=lookV P t m k ok bs fun v=>(K v).bind G:=by
 unfold lookV; simp only [mapTypeC_bind,keyV_bind,needC_bind,tpC_bind,closedZero_bind,mapC_bind,lkT_bind,fitT_bind]
theorem mostV_bind(big:Bool)(k:IntKind) :∀(l:List V) (a:Int) (K:V→Option R),(mostV big k a l K).bind G=mostV big k a l fun v=>(K v).bind G
 | [],a,K=>rfl
 | v::r,a,K=>by simp only [mostV,asIntV_bind,needC_bind,mostV_bind big k r]
theorem toBuf_bind(st:St)(mid s:Nat)(v:V)(K:V→St→Option R) :(toBuf st mid s v K).bind G=toBuf st mid s v fun v st=>(K v st).bind G:=by
 unfold toBuf; (repeat' split) <;>simp only [needC_bind,mint_bind,Option.bind_none]
theorem formC_bind(form mid:Nat)(v:V)(st:St)(K:V→St→Option R) :(formC form mid v st K).bind G=formC form mid v st fun v st=>(K v st).bind G:=by
 unfold formC; split <;>simp only [closeF_bind,toBuf_bind]
theorem cellC_bind(st:St)(v:V)(mid c form:Nat)(K:St→Option R) :(cellC st v mid c form K).bind G=cellC st v mid c form fun st=>(K st).bind G:=by
 unfold cellC; (repeat' split) <;>simp only [getV_bind,formC_bind,needC_bind,Option.bind_none]
theorem fitC_bind(p:CP)(v:V)(K:V→Option R) :(fitC p v K).bind G=fitC p v fun v=>(K v).bind G:=by
 unfold fitC; (repeat' split) <;>simp only [fitT1_bind,cond_bind,Option.bind_none]
theorem fitCs_bind :∀(ps:List CP) (vs:List V) (K:List V→Option R),(fitCs ps vs K).bind G=fitCs ps vs fun v=>(K v).bind G
 | [],[],K=>rfl
 | [],_::_,K=>rfl
 | _::_,[],K=>rfl
 | p::ps,v::vs,K=>by simp only [fitCs,fitC_bind,fitCs_bind ps vs]
theorem fitP0_bind(p:VP0)(v:V)(K:V→Option R) :(fitP0 p v K).bind G=fitP0 p v fun v=>(K v).bind G:=by
 unfold fitP0; (repeat' split) <;>simp only [fitT_bind,fitC_bind,fitCs_bind,Option.bind_none]
theorem fitP0s_bind :∀(ps:List VP0) (vs:List V) (K:List V→Option R),(fitP0s ps vs K).bind G=fitP0s ps vs fun v=>(K v).bind G
 | [],[],K=>rfl
 | [],_::_,K=>rfl
 | _::_,[],K=>rfl
 | p::ps,v::vs,K=>by simp only [fitP0s,fitP0_bind,fitP0s_bind ps vs]
theorem fitP_bind(p:VP)(v:V)(K:V→Option R) :(fitP p v K).bind G=fitP p v fun v=>(K v).bind G:=by
 unfold fitP; (repeat' split) <;>simp only [fitP0_bind,fitP0s_bind,Option.bind_none]
theorem fitB_bind(p:BP)(b:Blk)(K:Blk→Option R) :(fitB p b K).bind G=fitB p b fun v=>(K v).bind G:=by
 unfold fitB; (repeat' split) <;>simp only [fitCs_bind,cond_bind,Option.bind_none]
theorem fitBs_bind :∀(ps:List (Nat×BP)) (bs:Bs) (K:Bs→Option R),(fitBs ps bs K).bind G=fitBs ps bs fun v=>(K v).bind G
 | [],[],K=>rfl
 | [],_::_,K=>rfl
 | _::_,[],K=>rfl
 | (i,p)::ps,(j,b)::bs,K=>by simp only [fitBs,cond_bind,fitB_bind,fitBs_bind ps bs,Option.bind_none]
theorem argC_bind(own:Nat)(mid:Nat)(v:V)(st:St)(K:V→St→Option R) :(argC own mid v st K).bind G=argC own mid v st fun v st=>(K v st).bind G:=by
 unfold argC; (repeat' split) <;>simp only [toBuf_bind]
theorem argsC_bind :∀(i:Nat) (vs:List V) (own:List Nat) (st:St) (K:List V→St→Option R),(argsC i vs own st K).bind G=argsC i vs own st fun v st=>(K v st).bind G
 | _,[],_,st,K=>rfl
 | i,v::vs,own,st,K=>by simp only [argsC,argC_bind,argsC_bind (i+1) vs]
theorem preC_bind(as:List V) :∀(l:List (Nat×Nat×Nat)) (st:St) (K:St→Option R),(preC as l st K).bind G=preC as l st fun st=>(K st).bind G
 | [],st,K=>rfl
 | (i,c,s)::r,st,K=>by
  simp only [preC]
  split
  ·simp only [cellC_bind,preC_bind as r]
  ·rfl
variable (call:CallF) (H:Hint)
theorem tryH_bind(v:V)(bs:Bs)(K:VP→List (Nat×BP)→Option R) :∀(l:List (VP×List (Nat×BP))) (o:VP) (bl:List (Nat×BP)),(tryH v bs K o bl l).bind G=tryH v bs (fun o bl=>(K o bl).bind G) o bl l
 | [],o,bl=>rfl
 | a::l,o,bl=>by
  unfold tryH
  cases fitsH o bl v bs
  ·exact tryH_bind v bs K l a.1 a.2
  ·rfl
theorem callH_bind(h:CallH)(key:Nat)(al:Option (List Nat))(g:FuncId)(as:List V)(t:TypeId)(st:St)(K:V→St→Option R) :
  (callH P call h key al g as t st K).bind G=callH P call h key al g as t st fun v st=>(K v st).bind G:=by
 unfold callH; split
 ·rfl
 ·simp only [needC_bind,argsC_bind,preC_bind,Option.bind_assoc,tryH_bind,fitP_bind,fitBs_bind]
theorem callV_bind(f w rid idx key:Nat)(al:Option (List Nat))(fv:V)(as:List V)(t:TypeId)(st:St)(K:V→St→Option R) :
  (callV P H call f w rid idx key al fv as t st K).bind G=callV P H call f w rid idx key al fv as t st fun v st=>(K v st).bind G:=by
 unfold callV; split <;>simp only [callH_bind,Option.bind_none]
theorem subX_bind(p:TP)(off:Nat)(x:T)(K:T→Option R) :(subX p off x K).bind G=subX p off x fun v=>(K v).bind G:=by
 unfold subX; (repeat' split) <;>simp only [getT_bind,fitT1_bind,fitTs_bind,Option.bind_none]
theorem subV_bind(p:TP)(off:Nat)(x:V)(K:V→Option R) :(subV p off x K).bind G=subV p off x fun v=>(K v).bind G:=by
 unfold subV; (repeat' split) <;>simp only [subX_bind,getV_bind,fitV1_bind,fitVs_bind,Option.bind_none]
theorem elemT_bind(p:TP)(l:List T)(j:Int)(K:T→Option R) :(elemT p l j K).bind G=elemT p l j fun v=>(K v).bind G:=by
 unfold elemT; simp only [needC_bind,getT_bind,fitT_bind]
theorem lenS_bind(bs:Bs)(v:V)(K:Nat→Option R) :(lenS bs v K).bind G=lenS bs v fun n=>(K n).bind G:=by
 unfold lenS; (repeat' split) <;>rfl
theorem lenV_bind(ts:List TypeId)(as:List V)(st:St)(K:V→Option R) :(lenV P ts as st K).bind G=lenV P ts as st fun v=>(K v).bind G:=by
 unfold lenV; (repeat' split) <;>simp only [asStrV_bind,lenS_bind,mapC_bind,Option.bind_none]
theorem appV_bind(id:Nat)(ts:List TypeId)(as:List V)(st:St)(K:V→St→Option R) :(appV P id ts as st K).bind G=appV P id ts as st fun v st=>(K v st).bind G:=by
 unfold appV; split <;>simp only [elemC_bind,sizeC_bind,zeroC_bind,needC_bind,Option.bind_none]
 congr 1; funext e; congr 1; funext s; congr 1; funext z; congr 1; funext _
 (repeat' split) <;>simp only [srcV_bind,appendV_bind,Option.bind_none]
theorem copyV_bind(ts:List TypeId)(as:List V)(st:St)(K:V→St→Option R) :(copyV P ts as st K).bind G=copyV P ts as st fun v st=>(K v st).bind G:=by
 unfold copyV; split <;>simp only [elemC_bind,sizeC_bind,Option.bind_none]
 congr 1; funext e; congr 1; funext s
 split <;>simp only [srcV_bind,Option.bind_none]
 congr 1; funext xs
 (repeat' split) <;>simp only [needC_bind,Option.bind_none]
theorem mostsV_bind(big:Bool)(l:List V)(K:V→Option R) :(mostsV big l K).bind G=mostsV big l fun v=>(K v).bind G:=by
 unfold mostsV; split <;>simp only [asIntV_bind,mostV_bind,Option.bind_none]
theorem delV_bind(ts:List TypeId)(as:List V)(st:St)(K:V→St→Option R) :(delV P ts as st K).bind G=delV P ts as st fun v st=>(K v st).bind G:=by
 unfold delV; split <;>simp only [mapTypeC_bind,keyV_bind,needC_bind,mapC_bind,Option.bind_none]
 congr 1; funext kt _; congr 1; funext k; congr 1; funext _; congr 1; funext id es
 split <;>rfl
theorem opV_bind(f w rid idx:Nat)(al:Option (List Nat))(ev:Operand→V)(o:Oper)(st:St)(K:V→St→Option R) :
  (opV P H call f w rid idx al ev o st K).bind G=opV P H call f w rid idx al ev o st fun v st=>(K v st).bind G:=by
 unfold opV
 dsimp only
 split <;>(first | (with_reducible rfl) | skip) <;>(try simp only [sliceB_bind,needC_bind,asIntV_bind,asStrV_bind,asBoolV_bind,tpC_bind,mint_bind,elemC_bind,sizeC_bind,closedZero_bind,closeFs_bind,closeF_bind,putTs_bind,fitT_bind,ldB_bind,stB_bind,binV_bind,unV_bind,convV_bind,mapTypeC_bind,fieldC_bind,subX_bind,subV_bind,elemT_bind,lookV_bind,keyV_bind,mapC_bind,getV_bind,buildV_bind,callV_bind,srcV_bind,appendV_bind,contC_bind,zeroC_bind,mostV_bind,cutL_bind,Option.bind_none])
 all_goals
  first
  | (with_reducible rfl)
  | skip
 case h_3=>congr 1; funext t; cases t <;>rfl
 case h_4=>congr 1; funext p z; split <;>simp only [mint_bind]
 case h_5=>congr 1; funext _; split <;>simp only [mint_bind]
 case h_8=>congr 1; funext p z; (repeat' split) <;>simp only [fitT_bind,ldB_bind,Option.bind_none]
 case h_9=>(repeat' split) <;>simp only [needC_bind,sizeC_bind,stB_bind,Option.bind_none]
 case h_10=>split <;>rfl
 case h_14=>split <;>rfl
 case h_16=>
  congr 1; funext e; split <;>simp only [tpC_bind,closedZero_bind,asIntV_bind,needC_bind,mint_bind,Option.bind_none]
 case h_17=>
  split <;>simp only [asStrV_bind,needC_bind,sizeC_bind,sliceB_bind,Option.bind_none]
 case h_18=>congr 1; funext fd; congr 1; funext s; congr 1; funext _; split <;>simp only [tpC_bind,subX_bind,Option.bind_none]
 case h_20=>
  split <;>simp only [sizeC_bind,asIntV_bind,needC_bind,Option.bind_none]
  ·congr 1; funext s; congr 1; funext _ j
   (repeat' split) <;>simp only [needC_bind,tpC_bind,elemT_bind,Option.bind_none]
  ·congr 1; funext s; congr 1; funext _ j; congr 1; funext _
   (repeat' split) <;>simp only [tpC_bind,subX_bind,Option.bind_none]
 case h_21=>split <;>simp only [asStrV_bind,asIntV_bind,needC_bind,sizeC_bind,tpC_bind,subV_bind,Option.bind_none]
 case h_23=>
  congr 1; funext kt e; congr 1; funext k; congr 1; funext _; congr 1; funext x st; congr 1; funext id es; congr 1; funext p _; congr 1; funext x
  split <;>rfl
 case h_24=>split <;>simp only [getV_bind,Option.bind_none]
 case h_25=>split <;>simp only [lenV_bind,needC_bind,appV_bind,copyV_bind,mostsV_bind,delV_bind,Option.bind_none]
 case h_27=>
  congr 1; funext kt e; congr 1; funext k; congr 1; funext _; congr 1; funext x st; congr 1; funext id es; congr 1; funext p _; congr 1; funext x
  split <;>rfl
theorem rowC_bind(l:List RowV)(i:Nat)(K:Bool→List T→Option R) :(rowC l i K).bind G=rowC l i fun a b=>(K a b).bind G:=by
 unfold rowC; (repeat' split) <;>rfl
theorem rowLoad_bind(t:TypeId)(id':Nat)(st:St)(id sz:Nat)(l:List RowV)(i off:Nat)(K:V→St→Option R) :(rowLoad P t id' st id sz l i off K).bind G=rowLoad P t id' st id sz l i off fun v st=>(K v st).bind G:=by
 unfold rowLoad; simp only [tpC_bind]; congr 1; funext p _; (repeat' split) <;>simp only [needC_bind,rowC_bind,mint_bind,Option.bind_none]
theorem rowStore_bind(t:TypeId)(st:St)(id sz:Nat)(l:List RowV)(i off:Nat)(v:V)(K:V→St→Option R) :(rowStore P t st id sz l i off v K).bind G=rowStore P t st id sz l i off v fun v st=>(K v st).bind G:=by
 unfold rowStore; simp only [sizeC_bind]; congr 1; funext p; simp only [needC_bind]; congr 1; funext _; (repeat' split) <;>simp only [needC_bind,Option.bind_none]
theorem toRows_bind(t:TypeId)(st:St)(v:V)(K:V→St→Option R) :(toRows P t st v K).bind G=toRows P t st v fun v st=>(K v st).bind G:=by
 unfold toRows; simp only [elemC_bind,sizeC_bind]; congr 1; funext e; congr 1; funext e2; congr 1; funext s; (repeat' split) <;>simp only [needC_bind,Option.bind_none]
theorem rowApp_bind(id':Nat)(ts:List TypeId)(x:V)(st:St)(id sz:Nat)(l:List RowV)(K:V→St→Option R) :(rowApp P id' ts x st id sz l K).bind G=rowApp P id' ts x st id sz l fun v st=>(K v st).bind G:=by
 unfold rowApp; split <;>simp only [elemC_bind,sizeC_bind,zeroC_bind,needC_bind,Option.bind_none]
 congr 1; funext e; congr 1; funext s; congr 1; funext z; congr 1; funext _
 (repeat' split) <;>simp only [srcV_bind,needC_bind,mint_bind,Option.bind_none]
theorem opX_bind(f w rid idx:Nat)(ev:Operand→V)(o:Oper)(st:St)(K:V→St→Option R) :
  (opX P H call f w rid idx ev o st K).bind G=opX P H call f w rid idx ev o st fun v st=>(K v st).bind G:=by
 unfold opX
 dsimp only
 split
 ·(repeat' split) <;>simp only [rowLoad_bind,opV_bind,Option.bind_none]
 ·(repeat' split) <;>simp only [rowStore_bind,opV_bind,Option.bind_none]
 ·cases H.cut f w rid idx <;>simp only [cond_true,cond_false,opV_bind,toRows_bind]
 ·cases H.cut f w rid idx <;>simp only [cond_true,cond_false,opV_bind,toRows_bind]
 ·(repeat' split) <;>simp only [rowApp_bind,opV_bind,Option.bind_none]
 ·simp only [opV_bind]
end
end Go.Proofs.Ytpfploolkmcalaa.VM
end
section
namespace Go.Proofs.Ytpfploolkmcalaa.VM
set_option linter.unusedVariables false
open Go AM
set_option linter.unusedSectionVars false
set_option linter.unusedSimpArgs false
section
variable {R S:Type} (G:R→Option S) (P:Program) (H:Hint) (call:CallF)
theorem guardV_bind(ops:Array Oper)(o:Oper)(e:Env)(yes no:Env→Option R) :(guardV ops o e yes no).bind G=guardV ops o e (fun e=>(yes e).bind G) (fun e=>(no e).bind G):=by
 unfold guardV
 split <;>(try rfl)
 split <;>(try rfl)
 split <;>(try rfl)
 ·split <;>(try rfl)
  split <;>split <;>rfl
 ·rename_i vs _
  cases vs.isEmpty <;>rfl
theorem opsV_bind(ch:Bool)(f w rid:Nat)(ops:Array Oper) :∀(l:List Oper) (i:Nat) (e:Env) (h:St) (K:Env→St→Option R),(opsV P H call ch f w rid ops l i e h K).bind G=opsV P H call ch f w rid ops l i e h fun e h=>(K e h).bind G
 | [],_,_,_,_=>rfl
 | o::rest,i,e,h,K=>by simp only [opsV,guardV_bind,needC_bind,opX_bind,opsV_bind ch f w rid ops rest]
theorem readC_some{R:Type}{o:Oper}{e:Env}{st:St}{sts:List St}{k nh:Nat}{K:Env→St→Option R}{r:R}(hk:readC o e st sts k nh K=some r) :
  ∃e' s',K e' s'=some r∧(∀(S:Type) (K':Env→St→Option S),readC o e st sts k nh K'=K' e' s')∧
   ((k=nh∧e'=e∧s'=st)∨(∃m t id i off,o.op= .load m (.tmp t)∧e.get t= .ptr id i off∧sts[k]? =some s'∧(s'.blks.get id).isSome=true∧e'=[(t, .ptr id i off)])∨(∃t,lenArg o=some t∧isTree (e.get t)=true∧e'=e∧s'=st)):=by
 unfold readC at hk
 cases hb:k==nh with
 | true=>
  rw [hb] at hk
  exact ⟨e,st,hk,fun S K'=>by unfold readC; rw [hb]; rfl, .inl ⟨by simpa using hb,rfl,rfl⟩⟩
 | false=>
  rw [hb] at hk
  simp only [cond_false] at hk
  split at hk
  ·rename_i m a ho
   split at hk
   ·rename_i t
    split at hk
    ·rename_i id i off hg
     split at hk
     ·rename_i s0 hs
      cases hi:(s0.blks.get id).isSome <;>rw [hi] at hk
      ·cases hk
      ·exact ⟨_,s0,hk,fun S K'=>by unfold readC; rw [hb,ho]; simp only [cond_false,hg,hs,hi,cond_true], .inr (.inl ⟨m,t,id,i,off,ho,hg,hs,hi,rfl⟩)⟩
     ·cases hk
    ·cases hk
   ·cases hk
  ·rename_i hno
   split at hk
   ·rename_i t hl
    cases hi:isTree (e.get t) <;>rw [hi] at hk
    ·cases hk
    ·refine ⟨e,st,hk,fun S K'=> ?_, .inr (.inr ⟨t,hl,hi,rfl,rfl⟩)⟩
     unfold readC
     rw [hb]
     simp only [cond_false]
     rw [hl]
     simp only [hi,cond_true]
   ·cases hk
theorem readC_bind(o:Oper)(e:Env)(st:St)(sts:List St)(k nh:Nat)(K:Env→St→Option R) :(readC o e st sts k nh K).bind G=readC o e st sts k nh fun e s=>(K e s).bind G:=by
 unfold readC
 cases (k==nh) <;>simp only [cond_true,cond_false]
 split
 ·(repeat' split) <;>first | rfl | skip
  rename_i s0 _
  cases (s0.blks.get _).isSome <;>rfl
 ·split
  ·rename_i t _
   cases isTree (e.get t) <;>rfl
  ·rfl
theorem drawV_bind(f w rid:Nat)(ops:Array Oper) :∀(l:List Oper) (i:Nat) (e:Env) (h:St) (hs:Nat) (sts:List St) (rs:List (Nat×Nat)) (K:Env→St→Option R),(drawV P H call f w rid ops l i e h hs sts rs K).bind G=drawV P H call f w rid ops l i e h hs sts rs fun e h=>(K e h).bind G
 | [],_,_,_,_,_,_,_=>rfl
 | o::rest,i,e,h,hs,sts,rs,K=>by
  simp only [drawV,guardV_bind]
  congr 1
  ·funext e
   cases cls o <;>simp only [opV_bind,needC_bind,readC_bind,drawV_bind f w rid ops rest]
  ·funext e
   simp only [drawV_bind f w rid ops rest]
theorem seqV_bind(next:Env→St→Option R)(K:Ex→Env→St→Option R)(ex:Ex)(e:Env)(h:St) :(seqV next K ex e h).bind G=seqV (fun e h=>(next e h).bind G) (fun ex e h=>(K ex e h).bind G) ex e h:=by cases ex <;>rfl
theorem blockV_bind(id:Nat)(K:Ex→Env→St→Option R)(ex:Ex)(e:Env)(h:St) :(blockV id K ex e h).bind G=blockV id (fun ex e h=>(K ex e h).bind G) ex e h:=by
 cases ex <;>try rfl
 rename_i i
 unfold blockV
 dsimp only
 cases i==id <;>rfl
theorem normE_bind(f w:Nat)(c:Code)(e:Env)(h:St)(K:Env→St→Option R) :(normE H f w c e h K).bind G=normE H f w c e h fun e h=>(K e h).bind G:=rfl
theorem iterU_bind{B:(R:Type)→Env→St→(Ex→Env→St→Option R)→Option R}(hB:∀e h K,(B R e h K).bind G=B S e h fun ex e h=>(K ex e h).bind G)(K:Ex→Env→St→Option R) :
  ∀(n:Nat) (e:Env) (h:St),(iterU (B R) K n e h).bind G=iterU (B S) (fun ex e h=>(K ex e h).bind G) n e h
 | 0,_,_=>rfl
 | n+1,e,h=>by
  simp only [iterU,hB]
  congr 1; funext ex e h
  rw [seqV_bind]
  congr 1; funext e h
  exact iterU_bind hB K n e h
theorem codeV_bind(f w nt:Nat)(c:Code) :∀{R S:Type} (G:R→Option S) (e:Env) (h:St) (K:Ex→Env→St→Option R),(codeV P H call f w nt R K e h c).bind G=codeV P H call f w nt S (fun ex e h=>(K ex e h).bind G) e h c:=by
 induction c with
 | skip=>intros; rfl
 | label l=>intros; rfl
 | exit i=>intros; rfl
 | ret=>intros; rfl
 | region id ops draw=>
  intro R S G e h K
  unfold codeV
  cases dstsOk nt ops <;>simp only [cond_true,cond_false,Option.bind_none]
  cases draw <;>simp only [cond_true,cond_false,opsV_bind]
  cases okDraw ops <;>simp only [cond_true,cond_false,Option.bind_none]
  cases noRows h.blks <;>simp only [cond_true,cond_false,drawV_bind]
  cases plainDraw ops <;>simp only [cond_true,cond_false,opsV_bind,Option.bind_none]
 | seq a b iha ihb=>
  intro R S G e h K
  unfold codeV
  rw [iha]
  congr 1
  funext ex e h
  rw [seqV_bind]
  congr 1
  funext e h
  rw [normE_bind]
  congr 1
  funext e h
  rw [ihb]
 | cond x a b iha ihb=>
  intro R S G e h K
  unfold codeV
  split
  ·split <;>(try rfl)
   split <;>(try rfl)
   split
   ·rw [normE_bind]; congr 1; funext e h; rw [iha]
   ·rw [normE_bind]; congr 1; funext e h; rw [ihb]
  ·split
   ·rw [normE_bind]; congr 1; funext e h; rw [iha]
   ·rw [normE_bind]; congr 1; funext e h; rw [ihb]
  ·rfl
 | block id b ih=>
  intro R S G e h K
  unfold codeV
  rw [ih]
  congr 1
  funext ex e h
  rw [blockV_bind]
 | loop b ih=>
  intro R S G e h K
  unfold codeV
  split
  ·rw [Option.bind_assoc]
  ·refine iterU_bind (B:=fun R e st K=>codeV P H call f w nt R (seqV (fun e st=>normE H f w b e st (K .normal)) K) e st b) G (fun e h K=> ?_) K _ e h
   rw [ih]
   congr 1
   funext ex e h
   rw [seqV_bind]
 | rangeFunc=>intros; rfl
 | scope b ih=>
  intro R S G e h K
  unfold codeV
  exact ih G e h K
 | goto=>intros; rfl
 | refuse=>intros; rfl
noncomputable def codeVD(f w nt:Nat)(c:Code)(e:Env)(h:St) :Option Out:=codeV P H call f w nt Out (fun ex e h=>some (ex,e,h)) e h c
theorem codeV_eq(f w nt:Nat)(c:Code)(e:Env)(h:St)(K:Ex→Env→St→Option R) :codeV P H call f w nt R K e h c=(codeVD P H call f w nt c e h).bind fun r=>K r.1 r.2.1 r.2.2:=by
 unfold codeVD
 rw [codeV_bind]
 rfl
theorem opV_eq(f w rid idx:Nat)(al:Option (List Nat))(ev:Operand→V)(o:Oper)(h:St)(K:V→St→Option R) :opV P H call f w rid idx al ev o h K=(opV P H call f w rid idx al ev o h fun v h=>some (v,h)).bind fun r=>K r.1 r.2:=by
 rw [opV_bind]; rfl
theorem loopVN_up(D:Env→St→Option Out) :∀(n:Nat) (e:Env) (h:St) (v:Out),loopVN D n e h=some v→loopVN D (n+1) e h=some v
 | 0,_,_,_,hv=>by cases hv
 | n+1,e,h,v,hv=>by
  rw [loopVN] at hv ⊢
  cases hd:D e h with
  | none=>rw [hd] at hv; cases hv
  | some r=>
   rw [hd] at hv
   simp only [Option.bind_some] at hv ⊢
   obtain ⟨ex,e',h'⟩:=r
   cases ex with
   | normal=>exact loopVN_up D n e' h' v hv
   | exit i=>exact hv
   | ret=>exact hv
theorem loopVD_eq(D:Env→St→Option Out)(e:Env)(h:St) :
  loopVD D e h=(D e h).bind fun r=>match r with
   | (.normal,e',h')=>loopVD D e' h'
   | r=>some r:=by
 apply Option.ext
 intro v
 constructor
 ·intro hv
  obtain ⟨n,hn⟩:=lfp_some hv
  cases n with
  | zero=>cases hn
  | succ n=>
   rw [loopVN] at hn
   cases hd:D e h with
   | none=>rw [hd] at hn; cases hn
   | some r=>
    rw [hd] at hn
    simp only [Option.bind_some] at hn ⊢
    obtain ⟨ex,e',h'⟩:=r
    cases ex with
    | normal=>exact lfp_eq (F:=fun n=>loopVN D n e' h') (fun n v=>loopVN_up D n e' h' v) hn
    | exit i=>exact hn
    | ret=>exact hn
 ·intro hv
  cases hd:D e h with
  | none=>rw [hd] at hv; cases hv
  | some r=>
   rw [hd] at hv
   simp only [Option.bind_some] at hv
   obtain ⟨ex,e',h'⟩:=r
   cases ex with
   | normal=>
    obtain ⟨n,hn⟩:=lfp_some hv
    exact lfp_eq (F:=fun n=>loopVN D n e h) (n:=n+1) (fun n v=>loopVN_up D n e h v) (by show loopVN D (n+1) e h=some v; rw [loopVN,hd]; exact hn)
   | exit i=>exact lfp_eq (F:=fun n=>loopVN D n e h) (n:=1) (fun n v=>loopVN_up D n e h v) (by show loopVN D 1 e h=some v; rw [loopVN,hd]; exact hv)
   | ret=>exact lfp_eq (F:=fun n=>loopVN D n e h) (n:=1) (fun n v=>loopVN_up D n e h v) (by show loopVN D 1 e h=some v; rw [loopVN,hd]; exact hv)
theorem loopV_eq(f w nt:Nat)(b:Code)(hr:rounds H f w b=0)(e:Env)(h:St)(K:Ex→Env→St→Option R) :
  codeV P H call f w nt R K e h (.loop b)=codeV P H call f w nt R (seqV (fun e' h'=>normE H f w b e' h' fun e' h'=>codeV P H call f w nt R K e' h' (.loop b)) K) e h b:=by
 have unf:∀e h,codeV P H call f w nt R K e h (.loop b)=(loopVD (fun e st=>codeV P H call f w nt Out (seqV (fun e st=>normE H f w b e st fun e st=>some (.normal,e,st)) fun ex e st=>some (ex,e,st)) e st b) e h).bind fun r=>K r.1 r.2.1 r.2.2:=by
  intro e h
  conv=>lhs; unfold codeV
  rw [hr]
 rw [unf,loopVD_eq,Option.bind_assoc,codeV_bind,codeV_eq (c:=b),codeV_eq (c:=b) (K:=seqV _ K)]
 congr 1
 funext r
 obtain ⟨ex,e',h'⟩:=r
 cases ex with
 | normal=>
  simp only [seqV,Option.bind_assoc,normE_bind,Option.bind_some]
  congr 1
  funext e h
  exact (unf e h).symm
 | exit i=>rfl
 | ret=>rfl
end
/-! ### calls -/
def LeV(c1 c2:CallF) :Prop:=∀g w as h r,c1 g w as h=some r→c2 g w as h=some r
section
variable (P:Program) (H:Hint) {c1 c2:CallF}
theorem opV_irrel{R:Type}(f w rid idx:Nat)(al:Option (List Nat))(ev:Operand→V)(o:Oper)(h:St)(K:V→St→Option R)(hb:callB o=false) :opV P H c1 f w rid idx al ev o h K=opV P H c2 f w rid idx al ev o h K:=by
 unfold opV
 dsimp only
 split <;>first
  | (with_reducible rfl)
  | (rename_i heq; simp [callB,heq] at hb)
theorem opV_call{R:Type}(c:CallF)(f w rid idx:Nat)(al:Option (List Nat))(ev:Operand→V)(o:Oper)(h:St)(K:V→St→Option R)(hb:callB o=true) :
  ∃fv args ts,o.op= .call {callee:= .value fv,args,argTypes:=ts}∧opV P H c f w rid idx al ev o h K=needC (Nat.ble args.toList.length ts.toList.length) fun _=>callV P H c f w rid idx (match o.dst with | some d=>d | none=>900+idx) al (ev fv) ((args.toList.zip ts.toList).map fun x=>evT P x.2 ev x.1) o.type h K:=by
 unfold callB at hb
 split at hb
 ·rename_i fv args ts heq
  refine ⟨fv,args,ts,heq, ?_⟩
  simp only [opV,heq]
  all_goals rfl
 ·cases hb
theorem argsC_D{R:Type}(i:Nat)(vs:List V)(own:List Nat)(st:St)(K:List V→St→Option R) :argsC i vs own st K=(argsC i vs own st fun us st=>some (us,st)).bind fun q=>K q.1 q.2:=by rw [argsC_bind]; rfl
theorem preC_D{R:Type}(as:List V)(l:List (Nat×Nat×Nat))(st:St)(K:St→Option R) :preC as l st K=(preC as l st some).bind K:=by rw [preC_bind]; rfl
theorem callH_parts{R:Type}(c:CallF)(h:CallH)(key:Nat)(al:Option (List Nat))(g:FuncId)(as:List V)(t:TypeId)(st:St)(K:V→St→Option R)(r:R)(hr:callH P c h key al g as t st K=some r) :
  ∃g' w' as' st' q,c g' w' as' st'=some q∧∀c2:CallF,c2 g' w' as' st'=some q→callH P c2 h key al g as t st K=some r:=by
 unfold callH at hr
 split at hr
 ·cases hr
 ·rename_i i hi
  obtain ⟨h1,hr⟩:=needC_some hr
  rw [argsC_D] at hr
  obtain ⟨q1,hq1,hr⟩:=Option.bind_eq_some_iff.1 hr
  rw [preC_D] at hr
  obtain ⟨q2,hq2,hr⟩:=Option.bind_eq_some_iff.1 hr
  dsimp only at hr
  obtain ⟨h2,hr⟩:=needC_some hr
  obtain ⟨q,hq,hr⟩:=Option.bind_eq_some_iff.1 hr
  refine ⟨_,_,_,_,q,hq,fun c2 hc2=> ?_⟩
  unfold callH
  simp only [hi]
  rw [h1,argsC_D,hq1]
  show needC true _=_
  unfold needC
  simp only [cond_true,Option.bind_some]
  rw [preC_D,hq2]
  simp only [Option.bind_some]
  rw [h2,hc2]
  exact hr
theorem opV_parts(c:CallF)(f w rid idx:Nat)(al:Option (List Nat))(ev:Operand→V)(o:Oper)(h:St)(r:V×St)(hr:opV P H c f w rid idx al ev o h (fun v h=>some (v,h))=some r) :
  (∀c2:CallF,opV P H c2 f w rid idx al ev o h (fun v h=>some (v,h))=some r)∨
  ∃g' w' as' st' q,c g' w' as' st'=some q∧∀c2:CallF,c2 g' w' as' st'=some q→opV P H c2 f w rid idx al ev o h (fun v h=>some (v,h))=some r:=by
 cases hb:callB o with
 | false=>exact .inl fun c2=>by rw [opV_irrel P H (c1:=c2) (c2:=c) _ _ _ _ _ _ _ _ _ hb]; exact hr
 | true=>
  obtain ⟨fv,args,ts,heq,e1⟩:=opV_call P H c f w rid idx al ev o h (fun v h=>some (v,h)) hb
  rw [e1] at hr
  obtain ⟨hlen,hr⟩:=needC_some hr
  unfold callV at hr
  split at hr
  ·rename_i g first caps hfv
   obtain ⟨g',w',as',st',q,h1,h2⟩:=callH_parts P c _ _ _ _ _ _ _ _ _ hr
   refine .inr ⟨g',w',as',st',q,h1,fun c2 hc2=> ?_⟩
   obtain ⟨fv',args',ts',heq',e2⟩:=opV_call P H c2 f w rid idx al ev o h (fun v h=>some (v,h)) hb
   rw [heq] at heq'
   cases heq'
   rw [e2,hlen]
   show callV P H c2 f w rid idx _ al (ev fv) _ o.type h _=_
   unfold callV
   rw [hfv]
   exact h2 c2 hc2
  ·cases hr
theorem opV_mono(hc:LeV c1 c2)(f w rid idx:Nat)(al:Option (List Nat))(ev:Operand→V)(o:Oper)(h:St)(r:V×St)(hr:opV P H c1 f w rid idx al ev o h (fun v h=>some (v,h))=some r) :opV P H c2 f w rid idx al ev o h (fun v h=>some (v,h))=some r:=by
 rcases opV_parts P H c1 f w rid idx al ev o h r hr with h1 | ⟨g',w',as',st',q,h1,h2⟩
 ·exact h1 c2
 ·exact h2 c2 (hc _ _ _ _ _ h1)
theorem opX_eq{R:Type}(c:CallF)(f w rid idx:Nat)(ev:Operand→V)(o:Oper)(h:St)(K:V→St→Option R) :opX P H c f w rid idx ev o h K=(opX P H c f w rid idx ev o h fun v h=>some (v,h)).bind fun r=>K r.1 r.2:=by
 rw [opX_bind]; rfl
theorem opX_irrel{R:Type}(f w rid idx:Nat)(ev:Operand→V)(o:Oper)(h:St)(K:V→St→Option R)(hb:callB o=false) :opX P H c1 f w rid idx ev o h K=opX P H c2 f w rid idx ev o h K:=by
 have e:∀(K:V→St→Option R),opV P H c1 f w rid idx none ev o h K=opV P H c2 f w rid idx none ev o h K:=fun K=>opV_irrel P H f w rid idx none ev o h K hb
 unfold opX
 dsimp only
 simp only [e]
theorem opX_call{R:Type}(c:CallF)(f w rid idx:Nat)(ev:Operand→V)(o:Oper)(h:St)(K:V→St→Option R)(hb:callB o=true) :opX P H c f w rid idx ev o h K=opV P H c f w rid idx none ev o h K:=by
 unfold callB at hb
 split at hb
 ·rename_i fv args ts heq
  unfold opX
  simp only [heq]
 ·cases hb
theorem opX_parts(c:CallF)(f w rid idx:Nat)(ev:Operand→V)(o:Oper)(h:St)(r:V×St)(hr:opX P H c f w rid idx ev o h (fun v h=>some (v,h))=some r) :
  (∀c2:CallF,opX P H c2 f w rid idx ev o h (fun v h=>some (v,h))=some r)∨
  ∃g' w' as' st' q,c g' w' as' st'=some q∧∀c2:CallF,c2 g' w' as' st'=some q→opX P H c2 f w rid idx ev o h (fun v h=>some (v,h))=some r:=by
 cases hb:callB o with
 | false=>exact .inl fun c2=>by rw [opX_irrel P H (c1:=c2) (c2:=c) _ _ _ _ _ _ _ _ hb]; exact hr
 | true=>
  rw [opX_call P H c f w rid idx ev o h _ hb] at hr
  rcases opV_parts P H c f w rid idx none ev o h r hr with h1 | ⟨g',w',as',st',q,h1,h2⟩
  ·exact .inl fun c2=>by rw [opX_call P H c2 f w rid idx ev o h _ hb]; exact h1 c2
  ·exact .inr ⟨g',w',as',st',q,h1,fun c2 hc2=>by rw [opX_call P H c2 f w rid idx ev o h _ hb]; exact h2 c2 hc2⟩
theorem opX_mono(hc:LeV c1 c2)(f w rid idx:Nat)(ev:Operand→V)(o:Oper)(h:St)(r:V×St)(hr:opX P H c1 f w rid idx ev o h (fun v h=>some (v,h))=some r) :opX P H c2 f w rid idx ev o h (fun v h=>some (v,h))=some r:=by
 rcases opX_parts P H c1 f w rid idx ev o h r hr with h1 | ⟨g',w',as',st',q,h1,h2⟩
 ·exact h1 c2
 ·exact h2 c2 (hc _ _ _ _ _ h1)
theorem guardV_mono{R:Type}{ops:Array Oper}{o:Oper}{e:Env}{y1 n1 y2 n2:Env→Option R}{r:R}(hy:∀e,y1 e=some r→y2 e=some r)(hn:∀e,n1 e=some r→n2 e=some r)
  (h:guardV ops o e y1 n1=some r):guardV ops o e y2 n2=some r:=by
 unfold guardV at h ⊢
 split at h
 ·exact hy _ h
 ·split at h
  ·split at h
   ·split at h
    ·split at h <;>split at h <;>first | exact hy _ h | exact hn _ h
    ·cases h
   ·rename_i vs _
    cases hv:vs.isEmpty <;>rw [hv] at h
    ·cases h
    ·exact hn _ h
   ·cases h
  ·cases h
theorem opsV_mono{R:Type}(hc:LeV c1 c2)(ch:Bool)(f w rid:Nat)(ops:Array Oper)(K:Env→St→Option R)(r:R) :∀(l:List Oper) (i:Nat) (e:Env) (h:St),opsV P H c1 ch f w rid ops l i e h K=some r→opsV P H c2 ch f w rid ops l i e h K=some r
 | [],_,_,_,hr=>hr
 | o::rest,i,e,h,hr=>by
  rw [opsV] at hr ⊢
  refine guardV_mono (fun e he=> ?_) (fun e he=>opsV_mono hc ch f w rid ops K r rest _ _ _ he) hr
  obtain ⟨hch,he⟩:=needC_some he
  rw [hch]
  show opX P H c2 _ _ _ _ _ _ _ _=_
  rw [opX_eq] at he ⊢
  obtain ⟨q,hq,hk⟩:=Option.bind_eq_some_iff.1 he
  rw [opX_mono P H hc _ _ _ _ _ _ _ _ hq]
  exact opsV_mono hc ch f w rid ops K r rest _ _ _ hk
theorem drawV_mono{R:Type}(hc:LeV c1 c2)(f w rid:Nat)(ops:Array Oper)(K:Env→St→Option R)(r:R) :∀(l:List Oper) (i:Nat) (e:Env) (h:St) (hs:Nat) (sts:List St) (rs:List (Nat×Nat)),drawV P H c1 f w rid ops l i e h hs sts rs K=some r→drawV P H c2 f w rid ops l i e h hs sts rs K=some r
 | [],_,_,_,_,_,_,hr=>hr
 | o::rest,i,e,h,hs,sts,rs,hr=>by
  rw [drawV] at hr ⊢
  refine guardV_mono (fun e he=> ?_) (fun e he=>drawV_mono hc f w rid ops K r rest _ _ _ _ _ _ he) hr
  cases hcl:cls o <;>simp only [hcl] at he ⊢
  ·rw [opV_eq] at he ⊢
   obtain ⟨q,hq,hk⟩:=Option.bind_eq_some_iff.1 he
   rw [opV_mono P H hc _ _ _ _ _ _ _ _ _ hq]
   exact drawV_mono hc f w rid ops K r rest _ _ _ _ _ _ hk
  ·obtain ⟨e',s',he,hrd,_⟩:=readC_some he
   rw [hrd]
   obtain ⟨hb,he⟩:=needC_some he
   rw [hb,opV_eq]
   rw [opV_eq] at he
   obtain ⟨q,hq,hk⟩:=Option.bind_eq_some_iff.1 he
   rw [opV_mono P H hc _ _ _ _ _ _ _ _ _ hq]
   exact drawV_mono hc f w rid ops K r rest _ _ _ _ _ _ hk
  ·rw [opV_eq] at he ⊢
   obtain ⟨q,hq,hk⟩:=Option.bind_eq_some_iff.1 he
   rw [opV_mono P H hc _ _ _ _ _ _ _ _ _ hq]
   exact drawV_mono hc f w rid ops K r rest _ _ _ _ _ _ hk
theorem loopVN_mono{D1 D2:Env→St→Option Out}(hD:∀e h v,D1 e h=some v→D2 e h=some v) :∀(n:Nat) (e:Env) (h:St) (v:Out),loopVN D1 n e h=some v→loopVN D2 n e h=some v
 | 0,_,_,_,hv=>by cases hv
 | n+1,e,h,v,hv=>by
  rw [loopVN] at hv ⊢
  obtain ⟨q,hq,hk⟩:=Option.bind_eq_some_iff.1 hv
  rw [hD _ _ _ hq]
  obtain ⟨ex,e',h'⟩:=q
  cases ex with
  | normal=>exact loopVN_mono hD n e' h' v hk
  | exit i=>exact hk
  | ret=>exact hk
theorem loopVD_mono{D1 D2:Env→St→Option Out}(hD:∀e h v,D1 e h=some v→D2 e h=some v)(e:Env)(h:St)(v:Out)(hv:loopVD D1 e h=some v) :loopVD D2 e h=some v:=by
 obtain ⟨n,hn⟩:=lfp_some hv
 exact lfp_eq (F:=fun n=>loopVN D2 n e h) (fun n v=>loopVN_up D2 n e h v) (loopVN_mono hD n e h v hn)
theorem normE_D{R:Type}(f w:Nat)(c:Code)(e:Env)(h:St)(K:Env→St→Option R) :normE H f w c e h K=(normE H f w c e h fun e h=>some (e,h)).bind fun q=>K q.1 q.2:=rfl
theorem iterU_mono{R:Type}{B1 B2:Env→St→(Ex→Env→St→Option R)→Option R}{r:R}(hB:∀e h K1 K2,(∀ex e h,K1 ex e h=some r→K2 ex e h=some r)→B1 e h K1=some r→B2 e h K2=some r)
  {K1 K2:Ex→Env→St→Option R} (hK:∀ex e h,K1 ex e h=some r→K2 ex e h=some r):∀(n:Nat) (e:Env) (h:St),iterU B1 K1 n e h=some r→iterU B2 K2 n e h=some r
 | 0,_,_,hr=>by cases hr
 | n+1,e,h,hr=>by
  rw [iterU] at hr ⊢
  refine hB _ _ _ _ (fun ex e h hx=> ?_) hr
  cases ex with
  | normal=>exact iterU_mono hB hK n e h hx
  | exit i=>exact hK _ _ _ hx
  | ret=>exact hK _ _ _ hx
theorem codeV_mono(hc:LeV c1 c2)(f w nt:Nat)(c:Code) :∀{R:Type} (e:Env) (h:St) (K1 K2:Ex→Env→St→Option R) (r:R),(∀ex e h,K1 ex e h=some r→K2 ex e h=some r)→
  codeV P H c1 f w nt R K1 e h c=some r→codeV P H c2 f w nt R K2 e h c=some r:=by
 induction c with
 | skip=>intro R e h K1 K2 r hK hr; exact hK _ _ _ hr
 | label l=>intro R e h K1 K2 r hK hr; exact hK _ _ _ hr
 | exit i=>intro R e h K1 K2 r hK hr; exact hK _ _ _ hr
 | ret=>intro R e h K1 K2 r hK hr; exact hK _ _ _ hr
 | region id ops draw=>
  intro R e h K1 K2 r hK hr
  unfold codeV at hr ⊢
  cases hd:dstsOk nt ops <;>rw [hd] at hr <;>simp only [cond_true,cond_false] at hr ⊢
  ·cases hr
  have key:∀(A:(Env→St→Option R)→Option R) (B:(Env→St→Option (Env×St))→Option (Env×St)),(∀K,A K=(B fun e h=>some (e,h)).bind fun q=>K q.1 q.2)→A (K1 .normal)=some r→A (K2 .normal)=some r:=by
   intro A B hAB hA
   rw [hAB] at hA ⊢
   obtain ⟨q,hq,hk⟩:=Option.bind_eq_some_iff.1 hA
   rw [hq]
   exact hK _ _ _ hk
  cases draw <;>simp only [cond_true,cond_false] at hr ⊢
  ·refine opsV_mono P H hc false f w id ops _ r _ _ _ _ ?_
   exact key (fun K=>opsV P H c1 false f w id ops ops.toList 0 e h K) (fun K=>opsV P H c1 false f w id ops ops.toList 0 e h K) (fun K=>by rw [opsV_bind]; rfl) hr
  ·cases ho:okDraw ops <;>rw [ho] at hr <;>simp only [cond_true,cond_false] at hr ⊢
   ·cases hr
   cases hnr:noRows h.blks <;>rw [hnr] at hr <;>simp only [cond_true,cond_false] at hr ⊢
   ·cases hpd:plainDraw ops <;>rw [hpd] at hr <;>simp only [cond_true,cond_false] at hr ⊢
    ·cases hr
    refine opsV_mono P H hc true f w id ops _ r _ _ _ _ ?_
    exact key (fun K=>opsV P H c1 true f w id ops ops.toList 0 e h K) (fun K=>opsV P H c1 true f w id ops ops.toList 0 e h K) (fun K=>by rw [opsV_bind]; rfl) hr
   refine drawV_mono P H hc f w id ops _ r _ _ _ _ _ _ _ ?_
   exact key (fun K=>drawV P H c1 f w id ops ops.toList 0 e h 0 [h] [] K) (fun K=>drawV P H c1 f w id ops ops.toList 0 e h 0 [h] [] K) (fun K=>by rw [drawV_bind]; rfl) hr
 | seq a b iha ihb=>
  intro R e h K1 K2 r hK hr
  unfold codeV at hr ⊢
  refine iha _ _ _ _ _ (fun ex e h hx=> ?_) hr
  cases ex with
  | normal=>exact ihb _ _ _ _ _ hK hx
  | exit i=>exact hK _ _ _ hx
  | ret=>exact hK _ _ _ hx
 | cond x a b iha ihb=>
  intro R e h K1 K2 r hK hr
  unfold codeV at hr ⊢
  split at hr
  ·split at hr
   ·split at hr
    ·split at hr
     ·exact iha _ _ _ _ _ hK hr
     ·exact ihb _ _ _ _ _ hK hr
    ·cases hr
   ·cases hr
  ·split at hr
   ·exact iha _ _ _ _ _ hK hr
   ·exact ihb _ _ _ _ _ hK hr
  ·cases hr
 | block id b ih=>
  intro R e h K1 K2 r hK hr
  unfold codeV at hr ⊢
  refine ih _ _ _ _ _ (fun ex e h hx=> ?_) hr
  cases ex with
  | normal=>exact hK _ _ _ hx
  | exit i=>
   simp only [blockV] at hx ⊢
   cases hi:i==id <;>rw [hi] at hx <;>exact hK _ _ _ hx
  | ret=>exact hK _ _ _ hx
 | loop b ih=>
  intro R e h K1 K2 r hK hr
  unfold codeV at hr ⊢
  split at hr
  ·obtain ⟨q,hq,hk⟩:=Option.bind_eq_some_iff.1 hr
   rw [loopVD_mono (fun e h v hv=>ih _ _ _ _ _ (fun _ _ _ hx=>hx) hv) _ _ _ hq]
   exact hK _ _ _ hk
  ·refine iterU_mono (B1:=fun e st K=>codeV P H c1 f w nt R (seqV (fun e st=>normE H f w b e st (K .normal)) K) e st b) (B2:=fun e st K=>codeV P H c2 f w nt R (seqV (fun e st=>normE H f w b e st (K .normal)) K) e st b) (fun e h K1 K2 hK hx=> ?_) hK _ _ _ hr
   refine ih _ _ _ _ _ (fun ex e h hx=> ?_) hx
   cases ex with
   | normal=>exact hK _ _ _ hx
   | exit i=>exact hK _ _ _ hx
   | ret=>exact hK _ _ _ hx
 | rangeFunc=>intro R e h K1 K2 r hK hr; cases hr
 | scope b ih=>
  intro R e h K1 K2 r hK hr
  unfold codeV at hr ⊢
  exact ih _ _ _ _ _ hK hr
 | goto=>intro R e h K1 K2 r hK hr; cases hr
 | refuse=>intro R e h K1 K2 r hK hr; cases hr
theorem funV_mono(hc:LeV c1 c2)(f w:Nat)(args:List V)(h:St)(r:V×St)(hr:funV P H c1 f w args h=some r) :funV P H c2 f w args h=some r:=by
 unfold funV at hr ⊢
 split at hr
 ·split at hr
  ·rename_i fn _ _ c _
   cases hn : (fn.name == "runtime.NumGoroutine" || !noRows h.blks) <;> rw [hn] at hr
   ·exact codeV_mono P H hc _ _ _ _ _ _ _ _ _ (fun _ _ _ hx=>hx) hr
   ·cases hr
  ·cases hr
 ·cases hr
theorem vN_up :∀(k:Nat),LeV (vN P H k) (vN P H (k+1))
 | 0=>fun _ _ _ _ _ hr=>by cases hr
 | k+1=>fun g w as h r hr=>by
  unfold vN at hr ⊢
  cases ho:H.isOv g <;>rw [ho] at hr <;>simp only [cond_true,cond_false] at hr ⊢
  ·exact funV_mono P H (vN_up k) g w as h r hr
  ·split at hr
   ·rename_i v hv
    rw [H.mono _ _ (vN_up k) g as v hv]
    exact hr
   ·cases hr
theorem vN_le(k d:Nat) :LeV (vN P H k) (vN P H (k+d)):=by
 induction d with
 | zero=>exact fun _ _ _ _ _ hr=>hr
 | succ d ih=>exact fun g w as h r hr=>vN_up P H (k+d) g w as h r (ih g w as h r hr)
theorem vN_max(k d:Nat) :LeV (vN P H k) (vN P H (max k d)):=by
 obtain ⟨e,he⟩:∃e,max k d=k+e:=⟨max k d - k,by omega⟩
 rw [he]
 exact vN_le P H k e
theorem vN_max'(k d:Nat) :LeV (vN P H d) (vN P H (max k d)):=by
 rw [Nat.max_comm]
 exact vN_max P H d k
theorem vrun_of(k:Nat)(f w:Nat)(args:List V)(h:St)(r:V×St)(hr:vN P H k f w args h=some r) :vrun P H f w args h=some r:=
 lfp_eq (F:=fun k=>vN P H k f w args h) (fun n v=>vN_up P H n f w args h v) hr
theorem vrun_some{f w:Nat}{args:List V}{h:St}{r:V×St}(hr:vrun P H f w args h=some r) :∃k,vN P H k f w args h=some r:=lfp_some hr
/-! What comes with all calls comes with calls of some depth. -/
theorem opV_cont(f w rid idx:Nat)(al:Option (List Nat))(ev:Operand→V)(o:Oper)(h:St)(r:V×St)(hr:opV P H (vrun P H) f w rid idx al ev o h (fun v h=>some (v,h))=some r) :∃k,opV P H (vN P H k) f w rid idx al ev o h (fun v h=>some (v,h))=some r:=by
 rcases opV_parts P H _ f w rid idx al ev o h r hr with h1 | ⟨g',w',as',st',q,h1,h2⟩
 ·exact ⟨0,h1 _⟩
 ·obtain ⟨k,hk⟩:=vrun_some P H h1
  exact ⟨k,h2 _ hk⟩
theorem opX_cont(f w rid idx:Nat)(ev:Operand→V)(o:Oper)(h:St)(r:V×St)(hr:opX P H (vrun P H) f w rid idx ev o h (fun v h=>some (v,h))=some r) :∃k,opX P H (vN P H k) f w rid idx ev o h (fun v h=>some (v,h))=some r:=by
 rcases opX_parts P H _ f w rid idx ev o h r hr with h1 | ⟨g',w',as',st',q,h1,h2⟩
 ·exact ⟨0,h1 _⟩
 ·obtain ⟨k,hk⟩:=vrun_some P H h1
  exact ⟨k,h2 _ hk⟩
theorem guardV_cases{R:Type}{ops:Array Oper}{o:Oper}{e:Env}{yes no:Env→Option R}{r:R}(h:guardV ops o e yes no=some r) :
  (∃e',yes e'=some r∧∀y n:Env→Option R,y e'=some r→guardV ops o e y n=some r)∨(∃e',no e'=some r∧∀y n:Env→Option R,n e'=some r→guardV ops o e y n=some r):=by
 unfold guardV at h ⊢
 split at h
 ·exact .inl ⟨_,h,fun _ _ h=>h⟩
 ·split at h
  ·split at h
   ·split at h
    ·split at h <;>split at h <;>first | exact .inl ⟨_,h,fun _ _ h=>h⟩ | exact .inr ⟨_,h,fun _ _ h=>h⟩
    ·cases h
   ·rename_i vs _
    cases hv:vs.isEmpty <;>rw [hv] at h
    ·cases h
    ·exact .inr ⟨_,h,fun _ _ h=>h⟩
   ·cases h
  ·cases h
theorem opsV_cont{R:Type}(ch:Bool)(f w rid:Nat)(ops:Array Oper)(K:Env→St→Option R)(r:R) :∀(l:List Oper) (i:Nat) (e:Env) (h:St),opsV P H (vrun P H) ch f w rid ops l i e h K=some r→∃k,opsV P H (vN P H k) ch f w rid ops l i e h K=some r
 | [],_,_,_,hr=>⟨0,hr⟩
 | o::rest,i,e,h,hr=>by
  rw [opsV] at hr
  rcases guardV_cases hr with ⟨e',he,hg⟩ | ⟨e',he,hg⟩
  ·obtain ⟨hch,he⟩:=needC_some he
   rw [opX_eq] at he
   obtain ⟨q,hq,hk⟩:=Option.bind_eq_some_iff.1 he
   obtain ⟨k1,h1⟩:=opX_cont P H _ _ _ _ _ _ _ _ hq
   obtain ⟨k2,h2⟩:=opsV_cont ch f w rid ops K r rest _ _ _ hk
   refine ⟨max k1 k2, ?_⟩
   rw [opsV]
   refine hg _ _ ?_
   rw [hch]
   show opX P H _ _ _ _ _ _ _ _ _=_
   rw [opX_eq,opX_mono P H (vN_max P H k1 k2) _ _ _ _ _ _ _ _ h1]
   exact opsV_mono P H (vN_max' P H k1 k2) ch f w rid ops K r rest _ _ _ h2
  ·obtain ⟨k,hk⟩:=opsV_cont ch f w rid ops K r rest _ _ _ he
   refine ⟨k, ?_⟩
   rw [opsV]
   exact hg _ _ hk
theorem drawV_cont{R:Type}(f w rid:Nat)(ops:Array Oper)(K:Env→St→Option R)(r:R) :∀(l:List Oper) (i:Nat) (e:Env) (h:St) (hs:Nat) (sts:List St) (rs:List (Nat×Nat)),drawV P H (vrun P H) f w rid ops l i e h hs sts rs K=some r→∃k,drawV P H (vN P H k) f w rid ops l i e h hs sts rs K=some r
 | [],_,_,_,_,_,_,hr=>⟨0,hr⟩
 | o::rest,i,e,h,hs,sts,rs,hr=>by
  rw [drawV] at hr
  rcases guardV_cases hr with ⟨e',he,hg⟩ | ⟨e',he,hg⟩
  ·cases hcl:cls o <;>simp only [hcl] at he
   ·rw [opV_eq] at he
    obtain ⟨q,hq,hk⟩:=Option.bind_eq_some_iff.1 he
    obtain ⟨k1,h1⟩:=opV_cont P H _ _ _ _ _ _ _ _ _ hq
    obtain ⟨k2,h2⟩:=drawV_cont f w rid ops K r rest _ _ _ _ _ _ hk
    refine ⟨max k1 k2, ?_⟩
    rw [drawV]
    refine hg _ _ ?_
    simp only [hcl]
    rw [opV_eq,opV_mono P H (vN_max P H k1 k2) _ _ _ _ _ _ _ _ _ h1]
    exact drawV_mono P H (vN_max' P H k1 k2) f w rid ops K r rest _ _ _ _ _ _ h2
   ·obtain ⟨e2,s2,he,hrd,_⟩:=readC_some he
    obtain ⟨hb,he⟩:=needC_some he
    rw [opV_eq] at he
    obtain ⟨q,hq,hk⟩:=Option.bind_eq_some_iff.1 he
    obtain ⟨k1,h1⟩:=opV_cont P H _ _ _ _ _ _ _ _ _ hq
    obtain ⟨k2,h2⟩:=drawV_cont f w rid ops K r rest _ _ _ _ _ _ hk
    refine ⟨max k1 k2, ?_⟩
    rw [drawV]
    refine hg _ _ ?_
    simp only [hcl]
    rw [hrd,hb,opV_eq,opV_mono P H (vN_max P H k1 k2) _ _ _ _ _ _ _ _ _ h1]
    exact drawV_mono P H (vN_max' P H k1 k2) f w rid ops K r rest _ _ _ _ _ _ h2
   ·rw [opV_eq] at he
    obtain ⟨q,hq,hk⟩:=Option.bind_eq_some_iff.1 he
    obtain ⟨k1,h1⟩:=opV_cont P H _ _ _ _ _ _ _ _ _ hq
    obtain ⟨k2,h2⟩:=drawV_cont f w rid ops K r rest _ _ _ _ _ _ hk
    refine ⟨max k1 k2, ?_⟩
    rw [drawV]
    refine hg _ _ ?_
    simp only [hcl]
    rw [opV_eq,opV_mono P H (vN_max P H k1 k2) _ _ _ _ _ _ _ _ _ h1]
    exact drawV_mono P H (vN_max' P H k1 k2) f w rid ops K r rest _ _ _ _ _ _ h2
  ·obtain ⟨k,hk⟩:=drawV_cont f w rid ops K r rest _ _ _ _ _ _ he
   refine ⟨k, ?_⟩
   rw [drawV]
   exact hg _ _ hk
theorem loopVN_cont(Dl:Env→St→Option Out)(D:Nat→Env→St→Option Out)(hup:∀j k e h v,D j e h=some v→D (max j k) e h=some v)(hD:∀e h v,Dl e h=some v→∃k,D k e h=some v) :
  ∀(n:Nat) (e:Env) (h:St) (v:Out),loopVN Dl n e h=some v→∃k,loopVN (D k) n e h=some v
 | 0,_,_,_,hv=>by cases hv
 | n+1,e,h,v,hv=>by
  rw [loopVN] at hv
  obtain ⟨q,hq,hk⟩:=Option.bind_eq_some_iff.1 hv
  obtain ⟨k1,h1⟩:=hD _ _ _ hq
  obtain ⟨ex,e',h'⟩:=q
  cases ex with
  | normal=>
   obtain ⟨k2,h2⟩:=loopVN_cont Dl D hup hD n e' h' v hk
   refine ⟨max k1 k2, ?_⟩
   rw [loopVN,hup k1 k2 _ _ _ h1]
   refine loopVN_mono (fun e h v hv=> ?_) n e' h' v h2
   rw [Nat.max_comm]
   exact hup k2 k1 _ _ _ hv
  | exit i=>exact ⟨k1,by rw [loopVN,h1]; exact hk⟩
  | ret=>exact ⟨k1,by rw [loopVN,h1]; exact hk⟩
theorem iterU_cont{R:Type}{r:R}(B:CallF→Env→St→(Ex→Env→St→Option R)→Option R)
  (hm:∀{c1 c2:CallF},LeV c1 c2→∀e h K1 K2,(∀ex e h,K1 ex e h=some r→K2 ex e h=some r)→B c1 e h K1=some r→B c2 e h K2=some r)
  (hB:∀e h K,B (vrun P H) e h K=some r→∃k ex e' h',K ex e' h'=some r∧∀K2:Ex→Env→St→Option R,K2 ex e' h'=some r→B (vN P H k) e h K2=some r) (K:Ex→Env→St→Option R):
  ∀(n:Nat) (e:Env) (h:St),iterU (B (vrun P H)) K n e h=some r→∃k,iterU (B (vN P H k)) K n e h=some r
 | 0,_,_,hr=>by cases hr
 | n+1,e,h,hr=>by
  rw [iterU] at hr
  obtain ⟨k1,ex,e',h',h1,h2⟩:=hB _ _ _ hr
  cases ex with
  | normal=>
   obtain ⟨k2,h3⟩:=iterU_cont B hm hB K n e' h' h1
   refine ⟨max k1 k2, ?_⟩
   rw [iterU]
   refine hm (vN_max P H k1 k2) _ _ _ _ (fun _ _ _ hx=>hx) (h2 _ ?_)
   exact iterU_mono (B1:=B (vN P H k2)) (B2:=B (vN P H (max k1 k2))) (fun e h K1 K2 hK hx=>hm (vN_max' P H k1 k2) e h K1 K2 hK hx) (fun _ _ _ hx=>hx) n e' h' h3
  | exit i=>exact ⟨k1,by rw [iterU]; exact h2 _ h1⟩
  | ret=>exact ⟨k1,by rw [iterU]; exact h2 _ h1⟩
theorem codeV_cont(f w nt:Nat)(c:Code) :∀{R:Type} (e:Env) (h:St) (K:Ex→Env→St→Option R) (r:R),codeV P H (vrun P H) f w nt R K e h c=some r→∃k,codeV P H (vN P H k) f w nt R K e h c=some r:=by
 induction c with
 | skip=>intro R e h K r hr; exact ⟨0,hr⟩
 | label l=>intro R e h K r hr; exact ⟨0,hr⟩
 | exit i=>intro R e h K r hr; exact ⟨0,hr⟩
 | ret=>intro R e h K r hr; exact ⟨0,hr⟩
 | region id ops draw=>
  intro R e h K r hr
  unfold codeV at hr ⊢
  cases hd:dstsOk nt ops <;>rw [hd] at hr <;>simp only [cond_true,cond_false] at hr ⊢
  ·cases hr
  cases draw <;>simp only [cond_true,cond_false] at hr ⊢
  ·exact opsV_cont P H false f w id ops _ r _ _ _ _ hr
  ·cases ho:okDraw ops <;>rw [ho] at hr <;>simp only [cond_true,cond_false] at hr ⊢
   ·cases hr
   cases hnr:noRows h.blks <;>rw [hnr] at hr <;>simp only [cond_true,cond_false] at hr ⊢
   ·cases hpd:plainDraw ops <;>rw [hpd] at hr <;>simp only [cond_true,cond_false] at hr ⊢
    ·cases hr
    exact opsV_cont P H true f w id ops _ r _ _ _ _ hr
   exact drawV_cont P H f w id ops _ r _ _ _ _ _ _ _ hr
 | seq a b iha ihb=>
  intro R e h K r hr
  unfold codeV at hr
  rw [codeV_eq] at hr
  obtain ⟨q,hq,hk⟩:=Option.bind_eq_some_iff.1 hr
  obtain ⟨k1,h1⟩:=iha _ _ _ _ hq
  obtain ⟨ex,e',h'⟩:=q
  have fin:∀k2,seqV (fun e' h'=>normE H f w b e' h' fun e' h'=>codeV P H (vN P H k2) f w nt R K e' h' b) K ex e' h'=some r→∃k,codeV P H (vN P H k) f w nt R K e h (.seq a b)=some r:=by
   intro k2 h2
   refine ⟨max k1 k2, ?_⟩
   unfold codeV
   rw [codeV_eq]
   have h1':codeVD P H (vN P H (max k1 k2)) f w nt a e h=some (ex,e',h'):=codeV_mono P H (vN_max P H k1 k2) f w nt a _ _ _ _ _ (fun _ _ _ hx=>hx) h1
   rw [h1']
   simp only [Option.bind_some]
   cases ex with
   | normal=>exact codeV_mono P H (vN_max' P H k1 k2) f w nt b _ _ _ _ _ (fun _ _ _ hx=>hx) h2
   | exit i=>exact h2
   | ret=>exact h2
  cases ex with
  | normal=>
   simp only [seqV] at hk
   rw [normE_D] at hk
   obtain ⟨q,hq,hk⟩:=Option.bind_eq_some_iff.1 hk
   obtain ⟨k2,h2⟩:=ihb _ _ _ _ hk
   refine fin k2 ?_
   simp only [seqV]
   rw [normE_D,hq]
   exact h2
  | exit i=>exact fin 0 hk
  | ret=>exact fin 0 hk
 | cond x a b iha ihb=>
  intro R e h K r hr
  have nrm:∀(c:Code) (e:Env) (h:St),(∀(e:Env) (h:St) (K:Ex→Env→St→Option R) (r:R),codeV P H (vrun P H) f w nt R K e h c=some r→∃k,codeV P H (vN P H k) f w nt R K e h c=some r)→
    (normE H f w c e h fun e h=>codeV P H (vrun P H) f w nt R K e h c)=some r→∃k,(normE H f w c e h fun e h=>codeV P H (vN P H k) f w nt R K e h c)=some r:=by
   intro c e h ih hr
   rw [normE_D] at hr
   obtain ⟨q,hq,hk⟩:=Option.bind_eq_some_iff.1 hr
   obtain ⟨k,h2⟩:=ih _ _ _ _ hk
   exact ⟨k,by rw [normE_D,hq]; exact h2⟩
  unfold codeV at hr ⊢
  split at hr
  ·split at hr
   ·split at hr
    ·split at hr
     ·exact nrm _ _ _ (fun e h K r=>iha e h K r) hr
     ·exact nrm _ _ _ (fun e h K r=>ihb e h K r) hr
    ·cases hr
   ·cases hr
  ·split at hr
   ·exact nrm _ _ _ (fun e h K r=>iha e h K r) hr
   ·exact nrm _ _ _ (fun e h K r=>ihb e h K r) hr
  ·cases hr
 | block id b ih=>
  intro R e h K r hr
  unfold codeV at hr ⊢
  exact ih _ _ _ _ hr
 | loop b ih=>
  intro R e h K r hr
  unfold codeV at hr ⊢
  cases hn:rounds H f w b with
  | zero=>
   simp only [hn] at hr ⊢
   obtain ⟨q,hq,hk⟩:=Option.bind_eq_some_iff.1 hr
   obtain ⟨n,hn⟩:=lfp_some hq
   obtain ⟨k,hk'⟩:=loopVN_cont _ (fun k e h=>codeV P H (vN P H k) f w nt Out (seqV (fun e st=>normE H f w b e st fun e st=>some (.normal,e,st)) fun ex e st=>some (ex,e,st)) e h b)
    (fun j k e h v hv=>codeV_mono P H (vN_max P H j k) f w nt b _ _ _ _ _ (fun _ _ _ hx=>hx) hv) (fun e h v hv=>ih _ _ _ _ hv) n e h q hn
   refine ⟨k, ?_⟩
   have:loopVD (fun e h=>codeV P H (vN P H k) f w nt Out (seqV (fun e st=>normE H f w b e st fun e st=>some (.normal,e,st)) fun ex e st=>some (ex,e,st)) e h b) e h=some q:=
    lfp_eq (F:=fun n=>loopVN _ n e h) (fun n v=>loopVN_up _ n e h v) hk'
   rw [this]
   exact hk
  | succ n=>
   simp only [hn] at hr ⊢
   refine iterU_cont P H (fun c e st K=>codeV P H c f w nt R (seqV (fun e st=>normE H f w b e st (K .normal)) K) e st b) ?_ ?_ K _ _ _ hr
   ·intro c1 c2 hc e h K1 K2 hK hx
    refine codeV_mono P H hc _ _ _ _ _ _ _ _ _ (fun ex e h hx=> ?_) hx
    cases ex with
    | normal=>exact hK _ _ _ hx
    | exit i=>exact hK _ _ _ hx
    | ret=>exact hK _ _ _ hx
   ·intro e h K hx
    rw [codeV_eq] at hx
    obtain ⟨q,hq,hk⟩:=Option.bind_eq_some_iff.1 hx
    obtain ⟨k1,h1⟩:=ih _ _ _ _ hq
    obtain ⟨ex,e',h'⟩:=q
    cases ex with
    | normal=>
     simp only [seqV] at hk
     rw [normE_D] at hk
     obtain ⟨q,hq2,hk⟩:=Option.bind_eq_some_iff.1 hk
     refine ⟨k1, .normal,q.1,q.2,hk,fun K2 h2=> ?_⟩
     rw [codeV_eq]
     have:codeVD P H (vN P H k1) f w nt b e h=some (.normal,e',h'):=h1
     rw [this]
     simp only [Option.bind_some,seqV]
     rw [normE_D,hq2]
     exact h2
    | exit i=>
     refine ⟨k1, .exit i,e',h',hk,fun K2 h2=> ?_⟩
     rw [codeV_eq]
     have:codeVD P H (vN P H k1) f w nt b e h=some (.exit i,e',h'):=h1
     rw [this]
     exact h2
    | ret=>
     refine ⟨k1, .ret,e',h',hk,fun K2 h2=> ?_⟩
     rw [codeV_eq]
     have:codeVD P H (vN P H k1) f w nt b e h=some (.ret,e',h'):=h1
     rw [this]
     exact h2
 | rangeFunc=>intro R e h K r hr; cases hr
 | scope b ih=>
  intro R e h K r hr
  unfold codeV at hr ⊢
  exact ih _ _ _ _ hr
 | goto=>intro R e h K r hr; cases hr
 | refuse=>intro R e h K r hr; cases hr
theorem vrun_fun(f w:Nat)(args:List V)(h:St)(ho:H.isOv f=false) :vrun P H f w args h=funV P H (vrun P H) f w args h:=by
 apply Option.ext
 intro r
 constructor
 ·intro hr
  obtain ⟨k,hk⟩:=vrun_some P H hr
  cases k with
  | zero=>cases hk
  | succ k=>
   unfold vN at hk
   rw [ho] at hk
   exact funV_mono P H (fun g w as h r hr=>vrun_of P H k g w as h r hr) f w args h r hk
 ·intro hr
  have:∃k,funV P H (vN P H k) f w args h=some r:=by
   unfold funV at hr ⊢
   split at hr
   ·split at hr
    ·rename_i fn hf _ c hc
     cases hn : (fn.name == "runtime.NumGoroutine" || !noRows h.blks) <;> rw [hn] at hr
     ·simp only [cond_false] at hr ⊢
      rw [normE_D] at hr
      obtain ⟨q,hq,hk⟩:=Option.bind_eq_some_iff.1 hr
      obtain ⟨k,hk⟩:=codeV_cont P H _ _ _ _ _ _ _ _ hk
      refine ⟨k, ?_⟩
      rw [normE_D,hq]
      exact hk
     ·cases hr
    ·cases hr
   ·cases hr
  obtain ⟨k,hk⟩:=this
  exact vrun_of P H (k+1) f w args h r (by unfold vN; rw [ho]; exact hk)
theorem vrun_ov{k f w:Nat}{args:List V}{v:V}(ho:H.isOv f=true)(hv:H.ov (vN P H k) f args=some v)(us:List Nat) :vrun P H f w args ⟨[],us⟩=some (v,⟨[],[]⟩):=
 vrun_of P H (k+1) f w args _ _ (by unfold vN; rw [ho,hv]; rfl)
theorem vrun_eq {f w : Nat} {fn : Func} {c : Code} (hf : P.funcs[f]? = some fn) (hc : fn.body = some c) (hn : (fn.name == "runtime.NumGoroutine") = false) (ho : H.isOv f = false) (args : List V) (h : St) (hr : noRows h.blks = true) :
  vrun P H f w args h=normE H f w c (envV args 0) h fun e h'=>codeV P H (vrun P H) f w (max args.length fn.ntmps) (V×St) (resKV P fn (H.own f w)) e h' c:=by
 rw [vrun_fun P H f w args h ho]
 unfold funV
 simp only [hf,hc,hn,hr,Bool.not_true,Bool.or_self,cond_false]
end
end Go.Proofs.Ytpfploolkmcalaa.VM
end
