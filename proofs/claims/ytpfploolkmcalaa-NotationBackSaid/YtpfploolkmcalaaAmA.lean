/- Merged: Am1 Am2 Am3 Am4 Am5 Am6 Am7. Conditions: none. -/
import Derived.Orders
import Derived.Below
import Derived.Deep.AppendSrc
import Derived.Laws.CopyRow
import Derived.OwnWalk
import Derived.Laws.MakeOwn
set_option linter.all false
section
namespace Go.Proofs.Ytpfploolkmcalaa.AM
open Go
def junk :Value:= .complex .f32 0 0
abbrev Env :=List (Nat×Value)
def Env.get :Env→Nat→Value
 | [],_=>junk
 | (i,v)::e,t=>bif i==t then v else Env.get e t
def Env.put(e:Env)(d:Option Nat)(v:Value) :Env:=match d with | some d=>(d,v)::e | none=>e
def Env.keep(e:Env)(l:List Nat) :Env:=l.map fun t=>(t,e.get t)
def Env.eval(e:Env) :Operand→Value
 | .tmp t=>e.get t
 | .const v=>v
 | .global g=> .pointer (some ⟨g,0,none⟩)
 | .func f=> .func (.func f) #[] #[]
structure Blk where
 cells:List Value
 sz:Nat
 rw:Bool
 par:List Nat
structure Hp where
 base:Nat
 old:Addr→Option Value
 new:Nat→Option Blk
 maps:Nat→Option (List (Value×Value))
 next:Nat
 low:Nat
 hole:Nat→Bool:=fun _=>false
def Hp.cell(h:Hp)(a:Addr) :Option Value:=
 match h.new a.block with
 | some b=>bif a.spot.isNone then b.cells[a.off]? else none
 | none=>h.old a
def Hp.alloc(h:Hp)(cs:List Value)(sz:Nat)(par:List Nat) :Hp:=
 {h with new:=fun r=>bif r==h.next then some ⟨cs,sz,true,par⟩ else h.new r,next:=h.next+1}
def Hp.fence(h:Hp)(r:Nat) :Hp:=
 {h with new:=fun q=>bif q==r then (h.new q).map (fun b=>{b with rw:=false}) else h.new q}
def splice(cs:List Value)(o:Nat)(vs:List Value) :List Value:=cs.take o++vs++cs.drop (o+vs.length)
def Hp.write(h:Hp)(r:Nat)(b:Blk)(o:Nat)(vs:List Value) :Hp:=
 {h with
  new:=fun q=>bif q==r then some {b with cells:=splice b.cells o vs,par:=[]} else bif b.par.contains q then none else h.new q,
  low:=min h.low (b.par.foldl min r)}
section
variable {R:Type}
def needC(b:Bool)(K:Unit→Option R) :Option R:=bif b then K () else none
def asIntC(k:IntKind)(v:Value)(K:Int→Option R) :Option R:=
 match v with
 | .int k' n=>bif decide (k'=k) then K n else none
 | _=>none
def asBoolC(v:Value)(K:Bool→Option R) :Option R:=match v with | .bool b=>K b | _=>none
def asStrC(v:Value)(K:ByteArray→Option R) :Option R:=match v with | .string b=>K b | _=>none
def asSliceC(v:Value)(K:Option Addr→Nat→Nat→Option R) :Option R:=match v with | .slice a n c=>K a n c | _=>none
def asPtrC(v:Value)(K:Option Addr→Option R) :Option R:=match v with | .pointer a=>K a | _=>none
def asMapC(v:Value)(K:Option Nat→Option R) :Option R:=match v with | .map a=>K a | _=>none
def asAggC(v:Value)(K:List Value→Option R) :Option R:=match v with | .agg cs=>K cs.toList | _=>none
def like1C(z v:Value)(K:Value→Option R) :Option R:=
 match z with
 | .int k _=>asIntC k v fun n=>K (.int k n)
 | .bool _=>asBoolC v fun b=>K (.bool b)
 | .string _=>asStrC v fun s=>K (.string s)
 | .slice _ _ _=>asSliceC v fun a n c=>K (.slice a n c)
 | .pointer _=>asPtrC v fun a=>K (.pointer a)
 | .map _=>asMapC v fun a=>K (.map a)
 | _=>K v
def consC(l:List Value)(K:Value→List Value→Option R) :Option R:=match l with | v::vs=>K v vs | []=>none
def endC(l:List Value)(K:Option R) :Option R:=match l with | []=>K | _::_=>none
def likeCellsC :List Value→List Value→(List Value→Option R)→Option R
 | [],vs,K=>endC vs (K [])
 | z::zs,vs,K=>consC vs fun v vs=>like1C z v fun u=>likeCellsC zs vs fun us=>K (u::us)
def like2C(z v:Value)(K:Value→Option R) :Option R:=
 match z with
 | .agg zs=>asAggC v fun vs=>likeCellsC zs.toList vs fun us=>K (.agg us.toArray)
 | _=>like1C z v K
def likePartsC :List Value→List Value→(List Value→Option R)→Option R
 | [],vs,K=>endC vs (K [])
 | z::zs,vs,K=>consC vs fun v vs=>like2C z v fun u=>likePartsC zs vs fun us=>K (u::us)
def like3C(z v:Value)(K:Value→Option R) :Option R:=
 match z with
 | .tuple zs=>match v with
  | .tuple vs=>likePartsC zs.toList vs.toList fun us=>K (.tuple us.toArray)
  | _=>none
 | _=>like2C z v K
def Hp.ldC(h:Hp)(z:Value)(a:Addr)(K:Value→Option R) :Option R:=
 match h.cell a with
 | some v=>like1C z v K
 | none=>none
def Hp.ldCellsC(h:Hp)(a:Addr) :List Value→Nat→(List Value→Option R)→Option R
 | [],_,K=>K []
 | z::zs,i,K=>h.ldC z (a.add i) fun u=>Hp.ldCellsC h a zs (i+1) fun us=>K (u::us)
def Hp.rawCells(h:Hp)(a:Addr) :Nat→Nat→Option (List Value)
 | _,0=>some []
 | i,n+1=>match h.cell (a.add i) with
  | some v=>(Hp.rawCells h a (i+1) n).map (v:: ·)
  | none=>none
def okCell :Value→Bool
 | .bool _ | .int .. | .string _ | .pointer _ | .slice .. | .map _ | .func .. | .nilFunc | .nilIface=>true
 | _=>false
def oneCells(vs:List Value) :Bool:=vs.all okCell
def plain1 :Value→Bool
 | .bool _ | .int .. | .string _ | .pointer none | .map none | .nilFunc | .nilIface=>true
 | .slice none n c=>n==0 &&c==0
 | _=>false
def plainC :Value→Bool
 | .agg cs=>cs.toList.all plain1
 | .tuple cs=>cs.toList.all fun v=>match v with
  | .agg cs=>cs.toList.all plain1
  | v=>plain1 v
 | v=>plain1 v
def Hp.stC(h:Hp)(a:Addr)(vs:List Value)(K:Hp→Option R) :Option R:=
 match h.new a.block with
 | some b=>needC (b.rw &&a.spot.isNone &&decide (a.off+vs.length≤b.cells.length) &&oneCells vs) fun _=>K (h.write a.block b a.off vs)
 | none=>none
def eqCell(x y:Value) :Option Bool:=
 match x,y with
 | .int k a, .int k' b=>bif decide (k=k') then some (decide (a=b)) else none
 | .bool a, .bool b=>some (a==b)
 | .string a, .string b=>some (decide (a=b))
 | _,_=>none
def eqCells :List Value→List Value→Option Bool
 | [],[]=>some true
 | x::xs,y::ys=>match eqCell x y with
  | some b=>(eqCells xs ys).map (b && ·)
  | none=>none
 | _,_=>none
def bitsI(op:BinOp)(k:IntKind)(x y:Int) :Int:=
 k.wrap (match op with
  | .and=>(BitVec.ofInt k.bits x &&&BitVec.ofInt k.bits y).toNat
  | .or=>(BitVec.ofInt k.bits x ||| BitVec.ofInt k.bits y).toNat
  | .xor=>(BitVec.ofInt k.bits x^^^BitVec.ofInt k.bits y).toNat
  | _=>(BitVec.ofInt k.bits x &&& ~~~ BitVec.ofInt k.bits y).toNat)
def intC(op:BinOp)(k k':IntKind)(a b:Int)(K:Value→Option R) :Option R:=
 match op with
 | .shl=>needC (decide (0≤b)) fun _=>K (.int k (k.wrap (a*2^(min b.toNat k.bits))))
 | .shr=>needC (decide (0≤b)) fun _=>K (.int k (a.fdiv (2^(min b.toNat k.bits))))
 | .add=>needC (decide (k=k')) fun _=>K (.int k (k.wrap (a+b)))
 | .sub=>needC (decide (k=k')) fun _=>K (.int k (k.wrap (a - b)))
 | .mul=>needC (decide (k=k')) fun _=>K (.int k (k.wrap (a*b)))
 | .quo=>needC (decide (k=k')) fun _=>needC (!decide (b=0)) fun _=>K (.int k (k.wrap (a.tdiv b)))
 | .rem=>needC (decide (k=k')) fun _=>needC (!decide (b=0)) fun _=>K (.int k (a.tmod b))
 | .and=>needC (decide (k=k')) fun _=>K (.int k (bitsI .and k a b))
 | .or=>needC (decide (k=k')) fun _=>K (.int k (bitsI .or k a b))
 | .xor=>needC (decide (k=k')) fun _=>K (.int k (bitsI .xor k a b))
 | .andNot=>needC (decide (k=k')) fun _=>K (.int k (bitsI .andNot k a b))
 | .eql=>needC (decide (k=k')) fun _=>K (.bool (decide (a=b)))
 | .neq=>needC (decide (k=k')) fun _=>K (.bool (!decide (a=b)))
 | .lss=>needC (decide (k=k')) fun _=>K (.bool (decide (a<b)))
 | .leq=>needC (decide (k=k')) fun _=>K (.bool (decide (a≤b)))
 | .gtr=>needC (decide (k=k')) fun _=>K (.bool (decide (b<a)))
 | .geq=>needC (decide (k=k')) fun _=>K (.bool (decide (b≤a)))
def strC(op:BinOp)(a b:ByteArray)(K:Value→Option R) :Option R:=
 match op with
 | .add=>needC (decide (a.size+b.size≤9223372036854775807)) fun _=>K (.string (a++b))
 | .eql=>K (.bool (decide (a=b)))
 | .neq=>K (.bool (!decide (a=b)))
 | .lss=>K (.bool (Op.bytesLess a.toList b.toList))
 | .leq=>K (.bool (Op.bytesLess a.toList b.toList || decide (a=b)))
 | .gtr=>K (.bool (!(Op.bytesLess a.toList b.toList || decide (a=b))))
 | .geq=>K (.bool (!Op.bytesLess a.toList b.toList))
 | _=>none
def eqlC(op:BinOp)(b:Bool)(K:Value→Option R) :Option R:=
 match op with
 | .eql=>K (.bool b)
 | .neq=>K (.bool (!b))
 | _=>none
def nilC(op:BinOp)(a b:Option Addr)(K:Value→Option R) :Option R:=
 match b with
 | none=>eqlC op a.isNone K
 | some _=>match a with
  | none=>eqlC op false K
  | some _=>none
def shapeB :List Value→List Value→Bool
 | [],[]=>true
 | .int k _::zs, .int k' _::vs=>decide (k'=k) &&shapeB zs vs
 | .bool _::zs, .bool _::vs=>shapeB zs vs
 | .string _::zs, .string _::vs=>shapeB zs vs
 | _,_=>false
def binC(op:BinOp)(d:Option TypeDesc)(eqt:Option (List Value))(x y:Value)(K:Value→Option R) :Option R:=
 match x with
 | .int k a=>match y with
  | .int k' b=>intC op k k' a b K
  | _=>none
 | .string a=>match y with
  | .string b=>strC op a b K
  | _=>none
 | .bool a=>match y with
  | .bool b=>match d with
   | some .bool=>eqlC op (a==b) K
   | _=>none
  | _=>none
 | .slice a _ _=>match y with
  | .slice b _ _=>match d with
   | some (.slice _)=>nilC op a b K
   | _=>none
  | _=>none
 | .pointer a=>match y with
  | .pointer b=>match d with
   | some (.pointer _)=>nilC op a b K
   | _=>none
  | _=>none
 | .agg xs=>match y with
  | .agg ys=>match eqt with
   | some zs=>needC (shapeB zs xs.toList &&shapeB zs ys.toList) fun _=>match eqCells xs.toList ys.toList with
    | some b=>eqlC op b K
    | none=>none
   | none=>none
  | _=>none
 | _=>none
end
end Go.Proofs.Ytpfploolkmcalaa.AM
end
section
namespace Go.Proofs.Ytpfploolkmcalaa.AM
open Go
structure Hint where
 eqt:TypeId→Option (List Value)
 keep:FuncId→Nat→Option (List Nat)
 isOv:FuncId→Bool:=fun _=>false
 ov:(FuncId→List Value→Hp→Option (Value×Hp))→FuncId→List Value→Hp→Option Value:=fun _ _ _ _=>none
 mono:∀c c':FuncId→List Value→Hp→Option (Value×Hp),(∀g as h r,c g as h=some r→c' g as h=some r)→∀f as h v,ov c f as h=some v→ov c' f as h=some v:=by exact fun _ _ _ _ _ _ _ h=>h
section
variable {R:Type}
def sizeC(P:Program)(t:TypeId)(K:Nat→Option R) :Option R:=match P.info? t with | some i=>K i.size | none=>none
def zeroC(P:Program)(t:TypeId)(K:Value→Option R) :Option R:=match P.info? t with | some i=>(match i.zero with | some z=>needC (plainC z) fun _=>K z | none=>none) | none=>none
def elemC(P:Program)(t:TypeId)(K:TypeId→Option R) :Option R:=match P.underlying t with | some (.slice e)=>K e | _=>none
def aggC(P:Program)(t:TypeId)(K:Bool→Option R) :Option R:=match P.underlying t with | some (.struct _)=>K true | some (.array _ _)=>K true | some _=>K false | none=>none
def loadC(P:Program)(h:Hp)(t:TypeId)(a:Addr)(K:Value→Option R) :Option R:=
 aggC P t fun b=>zeroC P t fun z=>bif b then sizeC P t fun s=>needC (decide (z.cells.size=s)) fun _=>h.ldCellsC a z.cells.toList 0 fun us=>K (.agg us.toArray) else h.ldC z a K
def placesOf(P:Program)(fs:Array Field) :Option (List (Nat×Nat)):=
 fs.toList.mapM fun f=>(P.info? f.type).map fun i=>(f.offset,i.size)
def buildC(P:Program)(t:TypeId)(parts:List (Nat×Value))(K:Value→Option R) :Option R:=
 zeroC P t fun z=>match P.underlying t with
  | some (.struct fs)=>match placesOf P fs with
   | some ps=>match Instr.fill (fun i=>ps[i]?) z.cells parts with
    | some cs=>K (.agg cs)
    | none=>none
   | none=>none
  | some (.array _ e)=>sizeC P e fun s=>match Instr.fill (fun i=>some (i*s,s)) z.cells parts with
    | some cs=>K (.agg cs)
    | none=>none
  | _=>none
def zerosOf(z:Value)(n:Nat) :List Value:=(List.range n).map fun i=>z.cells[i % z.cells.size]!
def idxC(a:Option Addr)(n:Nat)(s:Nat)(i:Int)(K:Value→Option R) :Option R:=
 needC (decide (0≤i) &&decide (i<(n:Int))) fun _=>match a with
  | some ad=>K (.pointer (some (ad.add (i.toNat*s))))
  | none=>none
def cutT(h:Hp)(a:Option Addr)(n c s:Nat)(lo hi:Option Int)(K:Option Addr→Nat→Nat→Option R) :Option R:=
 match a with
 | none=>
  needC (decide (lo.getD 0=0) &&decide (hi.getD 0=0) &&decide (n=0) &&decide (c=0)) fun _=>K none 0 0
 | some ad=>
  bif decide (ad.block<h.base) then
   needC (decide (0≤lo.getD 0) &&decide (lo.getD 0≤hi.getD n) &&decide (hi.getD n≤c) &&decide (n≤c)) fun _=>
    K (some (bif decide (c=(lo.getD 0).toNat) then ad else ad.add ((lo.getD 0).toNat*s))) ((hi.getD n).toNat - (lo.getD 0).toNat) (c - (lo.getD 0).toNat)
  else match h.new ad.block with
   | some b=>
    needC (decide (0≤lo.getD 0) &&decide (lo.getD 0≤hi.getD n) &&decide (hi.getD n≤n) &&decide (b.sz=s) &&ad.spot.isNone) fun _=>
     K (some (ad.add ((lo.getD 0).toNat*s))) ((hi.getD n).toNat - (lo.getD 0).toNat) 0
   | none=>none
def cutC(h:Hp)(a:Option Addr)(n c s:Nat)(lo hi:Option Int)(K:Value→Option R) :Option R:=cutT h a n c s lo hi fun a n c=>K (.slice a n c)
def srcC(h:Hp)(s n:Nat)(x:Value)(K:List Value→Option R) :Option R:=
 match x with
 | .slice (some a) _ _=>match h.rawCells a 0 (n*s) with
  | some cs=>K cs
  | none=>none
 | .slice none _ _=>K []
 | .string b=>needC (decide (s=1)) fun _=>K ((b.data.toList.take n).map fun x=>Value.int .u8 x.toNat)
 | _=>none
def prepG(h:Hp)(s:Nat)(a:Option Addr)(n m:Nat) :Hp:=
 bif decide (m=0) then h else match a with
 | some ad=>match h.new ad.block with
  | some b=>bif b.rw &&decide (ad.off+n*s<b.cells.length) then h.write ad.block {b with cells:=b.cells.take (ad.off+n*s)} 0 [] else h
  | none=>h
 | none=>h
def growT0(h:Hp)(s bytes:Nat)(a:Option Addr)(n c m:Nat)(vs:List Value)(K:Option Addr→Nat→Nat→Hp→Option R) :Option R:=
 bif decide (m=0) then needC (match a with | some ad=> !decide (ad.block<h.base) || decide (n≤c) | none=>true) fun _=>K a n c h else
 needC (decide ((n+m)*(bytes+1)≤70368744177664) &&decide (bytes≤1048576) &&decide (vs.length=m*s) &&oneCells vs) fun _=>
  match a with
  | none=>needC (decide (n=0)) fun _=>K (some ⟨h.next,0,none⟩) m 0 (h.alloc vs s [])
  | some ad=>match h.new ad.block with
   | some b=>
    needC (b.rw &&ad.spot.isNone &&decide (b.sz=s) &&decide (ad.off+n*s=b.cells.length) &&oneCells b.cells) fun _=>
     K (some ⟨h.next,0,none⟩) (n+m) 0 ((h.fence ad.block).alloc (b.cells.drop ad.off++vs) s (ad.block::b.par))
   | none=>
    needC (decide (c=n) &&decide (ad.block<h.base)) fun _=>match h.rawCells ad 0 (n*s) with
     | some cs=>K (some ⟨h.next,0,none⟩) (n+m) 0 (h.alloc (cs++vs) s [])
     | none=>none
def growT(h:Hp)(s bytes:Nat)(a:Option Addr)(n c m:Nat)(vs:List Value)(K:Option Addr→Nat→Nat→Hp→Option R) :Option R:=growT0 (prepG h s a n m) s bytes a n c m vs K
def growC0(h:Hp)(s bytes:Nat)(a:Option Addr)(n c m:Nat)(vs:List Value)(K:Value→Hp→Option R) :Option R:=growT0 h s bytes a n c m vs fun a n c h=>K (.slice a n c) h
def growC(h:Hp)(s bytes:Nat)(a:Option Addr)(n c m:Nat)(vs:List Value)(K:Value→Hp→Option R) :Option R:=growT h s bytes a n c m vs fun a n c h=>K (.slice a n c) h
def appendC(P:Program)(ts:List TypeId)(args:List Value)(h:Hp)(K:Value→Hp→Option R) :Option R:=
 match ts,args with
 | [t,tx],[sl,x]=>elemC P t fun e=>sizeC P e fun s=>zeroC P e fun z=>needC (decide (z.cells.size=s)) fun _=>match P.info? e with
  | some i=>match P.underlying tx with
   | some (.slice _)=>asSliceC sl fun a n c=>asSliceC x fun b m d=>srcC h s m (.slice b m d) fun vs=>growC h s i.bytes a n c m vs K
   | some .string=>asSliceC sl fun a n c=>asStrC x fun b=>srcC h s b.size (.string b) fun vs=>growC h s i.bytes a n c b.size vs K
   | _=>none
  | none=>none
 | _,_=>none
def putT(h:Hp)(s:Nat)(a:Option Addr)(k:Nat)(vs:List Value)(K:Hp→Option R) :Option R:=
 bif decide (k=0) then K h else
 match a with
 | some ad=>needC (decide (vs.length=k*s)) fun _=>h.stC ad vs K
 | none=>none
def putC(h:Hp)(s:Nat)(a:Option Addr)(k:Nat)(vs:List Value)(K:Value→Hp→Option R) :Option R:=putT h s a k vs fun h'=>K (.int .i64 k) h'
def copyC(P:Program)(ts:List TypeId)(args:List Value)(h:Hp)(K:Value→Hp→Option R) :Option R:=
 match ts,args with
 | [t,tx],[dst,x]=>elemC P t fun e=>sizeC P e fun s=>asSliceC dst fun a n _=>match P.underlying tx with
  | some (.slice _)=>asSliceC x fun b m d=>srcC h s (Nat.min m n) (.slice b m d) fun vs=>putC h s a (Nat.min m n) vs K
  | some .string=>asStrC x fun b=>srcC h s (Nat.min b.size n) (.string b) fun vs=>putC h s a (Nat.min b.size n) vs K
  | _=>none
 | _,_=>none
def lenC(P:Program)(ts:List TypeId)(args:List Value)(h:Hp)(K:Value→Option R) :Option R:=
 match ts,args with
 | [t],[x]=>match P.underlying t with
  | some .string=>asStrC x fun s=>K (.int .i64 s.size)
  | some (.slice _)=>asSliceC x fun _ n _=>K (.int .i64 n)
  | some (.array n _)=>K (.int .i64 n)
  | some (.map _ _)=>asMapC x fun a=>match a with
   | none=>K (.int .i64 0)
   | some r=>match h.maps r with
    | some es=>K (.int .i64 es.length)
    | none=>none
  | _=>none
 | _,_=>none
def mostFrom(big:Bool)(k:IntKind) :Int→List Value→(Value→Option R)→Option R
 | a,[],K=>K (.int k a)
 | a,v::r,K=>asIntC k v fun b=>mostFrom big k (bif big then max a b else min a b) r K
def mostC(big:Bool)(l:List Value)(K:Value→Option R) :Option R:=
 match l with
 | []=>none
 | v::r=>match v with
  | .int k a=>mostFrom big k a r K
  | _=>none
def keyB(x y:Value) :Option Bool:=
 match x,y with
 | .int k a, .int k' b=>bif decide (k=k') then some (decide (a=b)) else none
 | .string a, .string b=>some (decide (a=b))
 | _,_=>none
def keyLook :List (Value×Value)→Value→Option (Option Value)
 | [],_=>some none
 | (k,v)::es,x=>match keyB x k with
  | some true=>some (some v)
  | some false=>keyLook es x
  | none=>none
def keyPut :List (Value×Value)→Value→Value→List (Value×Value)
 | [],x,u=>[(x,u)]
 | (k,v)::es,x,u=>match keyB x k with
  | some true=>(x,u)::es
  | _=>(k,v)::keyPut es x u
def keyDrop :List (Value×Value)→Value→List (Value×Value)
 | [],_=>[]
 | (k,v)::es,x=>match keyB x k with
  | some true=>es
  | _=>(k,v)::keyDrop es x
def keyKind(P:Program)(kt:TypeId)(x:Value) :Bool:=
 match P.underlying kt,x with
 | some (.int k), .int k' _=>decide (k=k')
 | some .string, .string _=>true
 | _,_=>false
def mapTypeC(P:Program)(t:TypeId)(K:TypeId→TypeId→Option R) :Option R:=match P.underlying t with | some (.map k e)=>K k e | _=>none
def mapAtC(h:Hp)(x:Value)(K:List (Value×Value)→Option R) :Option R:=
 asMapC x fun a=>match a with
  | none=>K []
  | some r=>match h.maps r with
   | some es=>K es
   | none=>none
def lkC(es:List (Value×Value))(key z:Value)(K:Value→Bool→Option R) :Option R:=
 match keyLook es key with
 | some r=>K (r.getD z) r.isSome
 | none=>none
def lookC(P:Program)(t:TypeId)(x key:Value)(ok:Bool)(h:Hp)(K:Value→Option R) :Option R:=
 mapTypeC P t fun kt e=>needC (keyKind P kt key) fun _=>zeroC P e fun z=>mapAtC h x fun es=>lkC es key z fun v p=>like2C z v fun u=>K (bif ok then .tuple #[u, .bool p] else u)
def Hp.putMap(h:Hp)(r:Nat)(es:List (Value×Value)) :Hp:=
 {h with maps:=fun q=>bif q==r then some es else h.maps q,low:=min h.low r}
def Hp.allocMap(h:Hp) :Hp:=
 {h with maps:=fun q=>bif q==h.next then some [] else h.maps q,next:=h.next+1}
def mapPutC(P:Program)(t:TypeId)(m key v:Value)(h:Hp)(K:Hp→Option R) :Option R:=
 mapTypeC P t fun kt _=>needC (keyKind P kt key) fun _=>asMapC m fun a=>match a with
  | none=>none
  | some r=>match h.maps r with
   | some es=>match keyLook es key with
    | some _=>K (h.putMap r (keyPut es key v))
    | none=>none
   | none=>none
def mapDropC(P:Program)(ts:List TypeId)(args:List Value)(h:Hp)(K:Value→Hp→Option R) :Option R:=
 match ts,args with
 | t::_,[m,key]=>mapTypeC P t fun kt _=>needC (keyKind P kt key) fun _=>asMapC m fun a=>match a with
  | none=>K (.tuple #[]) h
  | some r=>match h.maps r with
   | some es=>match keyLook es key with
    | some _=>K (.tuple #[]) (h.putMap r (keyDrop es key))
    | none=>none
   | none=>none
 | _,_=>none
def byteV(v:Value) :UInt8:=match v with | .int _ b=>UInt8.ofNat b.toNat | _=>0
def convC(P:Program)(src dst:TypeId)(x:Value)(h:Hp)(K:Value→Option R) :Option R:=
 match P.underlying src,P.underlying dst with
 | some (.int _),some (.int k)=>match x with
  | .int _ n=>K (.int k (k.wrap n))
  | _=>none
 | some (.int _),some .string=>match x with
  | .int _ n=>needC (decide (0≤n) &&decide (n<128)) fun _=>K (.string ⟨#[n.toNat.toUInt8]⟩)
  | _=>none
 | some .string,some .string=>asStrC x fun s=>K (.string s)
 | some (.slice e),some .string=>match P.underlying e with
  | some (.int .u8)=>asSliceC x fun a n _=>match a with
   | none=>K (.string ByteArray.empty)
   | some ad=>h.ldCellsC ad (List.replicate n (.int .u8 0)) 0 fun cs=>K (.string ⟨(cs.map byteV).toArray⟩)
  | _=>none
 | _,_=>none
def unC(op:UnOp)(x:Value)(K:Value→Option R) :Option R:=
 match op with
 | .neg=>match x with
  | .int k n=>K (.int k (k.wrap (0 - n)))
  | _=>none
 | .not=>match x with
  | .bool b=>K (.bool (!b))
  | _=>none
 | .xor=>match x with
  | .int k n=>K (.int k (bitsI .xor k (bif k.signed then -1 else k.max) n))
  | _=>none
 | _=>none
def partC(P:Program)(t:TypeId)(cs:List Value)(off:Nat)(K:Value→Option R) :Option R:=
 aggC P t fun b=>bif b then sizeC P t fun s=>K (.agg ((cs.drop off).take s).toArray)
 else zeroC P t fun z=>match cs[off]? with
  | some v=>like1C z v K
  | none=>none
def fieldC(P:Program)(t:TypeId)(f:Nat)(K:Field→Option R) :Option R:=
 match P.underlying t with
 | some (.struct fs)=>match fs[f]? with
  | some fd=>K fd
  | none=>none
 | _=>none
def callC(P:Program)(call:FuncId→List Value→Hp→Option (Value×Hp))(f:Value)(args:List Value)(t:TypeId)(h:Hp)(K:Value→Hp→Option R) :Option R:=
 match f with
 | .func (.func g) first captured=>match P.info? t with
  | some i=>(call g (first.toList++args++captured.toList) h).bind fun r=>match i.zero with
   | some z=>like3C z r.1 fun v=>K v r.2
   | none=>K r.1 r.2
  | none=>none
 | _=>none
def boundV(v:Value) :Int:=match v with | .int _ n=>n | _=> -1
def opC(P:Program)(H:Hint)(call:FuncId→List Value→Hp→Option (Value×Hp))(ev:Operand→Value)(o:Oper)(h:Hp)(K:Value→Hp→Option R) :Option R:=
 match o.op with
 | .move x=>K (ev x) h
 | .assign x=>K (ev x) h
 | .pick c a b=>asBoolC (ev c) fun t=>match t with | true=>K (ev a) h | false=>K (ev b) h
 | .alloc t=>zeroC P t fun z=>K (.pointer (some ⟨h.next,0,none⟩)) (h.alloc z.cells.toList 0 [])
 | .box _ x=>needC (oneCells (ev x).cells.toList) fun _=>K (.pointer (some ⟨h.next,0,none⟩)) (h.alloc (ev x).cells.toList 0 [])
 | .build t parts=>needC (parts.toList.all fun p=>oneCells (ev p.2).cells.toList) fun _=>buildC P t (parts.toList.map fun p=>(p.1,ev p.2)) fun v=>K v h
 | .buildSlice t n parts=>elemC P t fun e=>sizeC P e fun s=>needC (decide (n*s≤4096) &&parts.toList.all fun p=>oneCells (ev p.2).cells.toList) fun _=>zeroC P e fun z=>needC (decide (z.cells.size=s)) fun _=>
   match Instr.fill (fun i=>some (i*s,s)) (zerosOf z (n*s)).toArray (parts.toList.map fun p=>(p.1,ev p.2)) with
   | some cs=>K (.slice (some ⟨h.next,0,none⟩) n 0) (h.alloc cs.toList s [])
   | none=>none
 | .load t x=>asPtrC (ev x) fun a=>match a with
   | some ad=>loadC P h t ad fun u=>K u h
   | none=>none
 | .store t x v=>asPtrC (ev x) fun a=>match a with
   | some ad=>sizeC P t fun s=>needC (decide ((ev v).cells.size=s)) fun _=>h.stC ad (ev v).cells.toList fun h'=>K undef h'
   | none=>none
 | .nilCheck x=>match ev x with
   | .pointer a=>match a with
    | some ad=>K (.pointer (some ad)) h
    | none=>none
   | .func (.func g) f c=>K (.func (.func g) f c) h
   | _=>none
 | .binOp op t x y _=>binC op (P.underlying t) (H.eqt t) (ev x) (ev y) fun v=>K v h
 | .unOp op _ x=>unC op (ev x) fun v=>K v h
 | .convert s d x=>convC P s d (ev x) h fun v=>K v h
 | .makeFunc fn first captured=>K (.func fn (first.map ev) (captured.map ev)) h
 | .makeMap t none=>mapTypeC P t fun _ _=>K (.map (some h.next)) h.allocMap
 | .makeSlice t l c=>elemC P t fun e=>match P.info? e with
   | some i=>zeroC P e fun z=>match ev l with
    | .int _ n=>match ev c with
     | .int _ m=>needC (decide (0≤n) &&decide (n≤m) &&decide (m*(i.bytes+1)≤70368744177664) &&decide (z.cells.size=i.size)) fun _=>
       K (.slice (some ⟨h.next,0,none⟩) n.toNat 0) (h.alloc (zerosOf z (n.toNat*i.size)) i.size [])
     | _=>none
    | _=>none
   | none=>none
 | .slice t x lo hi none=>match P.underlying t with
   | some .string=>asStrC (ev x) fun s=>
     needC (decide (0≤(lo.map fun v=>boundV (ev v)).getD 0) &&decide ((lo.map fun v=>boundV (ev v)).getD 0≤(hi.map fun v=>boundV (ev v)).getD s.size) &&decide ((hi.map fun v=>boundV (ev v)).getD s.size≤(s.size:Int))) fun _=>
      K (.string (s.extract ((lo.map fun v=>boundV (ev v)).getD 0).toNat ((hi.map fun v=>boundV (ev v)).getD s.size).toNat)) h
   | some (.slice e)=>sizeC P e fun s=>asSliceC (ev x) fun a n c=>
     cutC h a n c s (lo.map fun v=>boundV (ev v)) (hi.map fun v=>boundV (ev v)) fun v=>K v h
   | _=>none
 | .fieldAddr t x f=>fieldC P t f fun fd=>sizeC P fd.type fun s=>needC (!decide (s=0)) fun _=>asPtrC (ev x) fun a=>match a with
   | some ad=>K (.pointer (some (ad.add fd.offset))) h
   | none=>none
 | .field t x f=>fieldC P t f fun fd=>asAggC (ev x) fun cs=>partC P fd.type cs fd.offset fun v=>K v h
 | .indexAddr t x i=>match P.underlying t with
   | some (.slice e)=>sizeC P e fun s=>asSliceC (ev x) fun a n _=>match ev i with
    | .int _ j=>idxC a n s j fun v=>K v h
    | _=>none
   | some (.array n e)=>sizeC P e fun s=>asPtrC (ev x) fun a=>match ev i with
    | .int _ j=>idxC a n s j fun v=>K v h
    | _=>none
   | _=>none
 | .index t x i=>match P.underlying t with
   | some .string=>asStrC (ev x) fun s=>match ev i with
    | .int _ j=>needC (decide (0≤j) &&decide (j<(s.size:Int))) fun _=>K (.int .u8 (s[j.toNat]!).toNat) h
    | _=>none
   | some (.array n e)=>sizeC P e fun s=>asAggC (ev x) fun cs=>match ev i with
    | .int _ j=>needC (decide (0≤j) &&decide (j<(n:Int))) fun _=>partC P e cs (j.toNat*s) fun v=>K v h
    | _=>none
   | _=>none
 | .lookup t x i ok=>lookC P t (ev x) (ev i) ok h fun v=>K v h
 | .mapUpdate t m k v=>mapPutC P t (ev m) (ev k) (ev v) h fun h'=>K undef h'
 | .extract x i=>match ev x with
   | .tuple vs=>match vs.toList[i]? with
    | some v=>K v h
    | none=>none
   | _=>none
 | .call {callee:= .builtin b,args,argTypes}=>match b with
   | .len=>lenC P argTypes.toList (args.toList.map ev) h fun v=>K v h
   | .append=>appendC P argTypes.toList (args.toList.map ev) h K
   | .copy=>copyC P argTypes.toList (args.toList.map ev) h K
   | .min=>mostC false (args.toList.map ev) fun v=>K v h
   | .max=>mostC true (args.toList.map ev) fun v=>K v h
   | .delete=>mapDropC P argTypes.toList (args.toList.map ev) h K
   | _=>none
 | .call {callee:= .value f,args,argTypes:=_}=>callC P call (ev f) (args.toList.map ev) o.type h K
 | .insert t m k v=>mapPutC P t (ev m) (ev k) (ev v) h fun h'=>K undef h'
 | _=>none
end
end Go.Proofs.Ytpfploolkmcalaa.AM
end
section
namespace Go.Proofs.Ytpfploolkmcalaa.AM
open Go
noncomputable def lfp{α:Type}(F:Nat→Option α) :Option α:=
 open Classical in if h : ∃ n v, F n = some v then F h.choose else none
theorem lfp_eq{α:Type}{F:Nat→Option α}(hm:∀n v,F n=some v→F (n+1)=some v){n:Nat}{v:α}(h:F n=some v) :lfp F=some v:=by
 have up:∀d m u,F m=some u→F (m+d)=some u:=by
  intro d
  induction d with
  | zero=>intro m u hu; exact hu
  | succ d ih=>intro m u hu; exact hm _ _ (ih _ _ hu)
 have hx:∃n v,F n=some v:=⟨n,v,h⟩
 unfold lfp
 rw [dif_pos hx]
 obtain ⟨u,hu⟩:=hx.choose_spec
 rw [hu]
 have a:=up n hx.choose u hu
 have b:=up hx.choose n v h
 rw [Nat.add_comm] at b
 rw [a] at b
 exact b
theorem lfp_some{α:Type}{F:Nat→Option α}{v:α}(h:lfp F=some v) :∃n,F n=some v:=by
 unfold lfp at h
 split at h
 ·exact ⟨_,h⟩
 ·cases h
inductive Cls where
 | pure | reads | acts
def cls(o:Oper) :Cls:=
 match o.op with
 | .move _ | .assign _ | .pick .. | .build .. | .nilCheck _ | .binOp .. | .unOp .. | .makeFunc .. | .fieldAddr .. | .field .. | .indexAddr .. | .index .. | .extract .. => .pure
 | .convert .. => .reads
 | .load .. | .lookup .. | .slice .. => .reads
 | .call {callee:= .builtin b, .. }=>match b with
  | .len=> .reads
  | .min | .max=> .pure
  | _=> .acts
 | _=> .acts
def actsB(o:Oper) :Bool:=match cls o with | .acts=>true | _=>false
def readsB(o:Oper) :Bool:=match cls o with | .reads=>true | _=>false
def makesB(o:Oper) :Bool:=
 match o.op with
 | .alloc _ | .box .. | .buildSlice .. | .makeSlice .. | .makeMap .. =>true
 | .call {callee:= .builtin .append, .. }=>true
 | .call {callee:= .value _, .. }=>true
 | .store .. =>true
 | _=>false
def callB(o:Oper) :Bool:=match o.op with | .call {callee:= .value _, .. }=>true | _=>false
def wildB(o:Oper) :Bool:=match o.op with | .call {callee:= .value _, .. }=>true | .call {callee:= .builtin .append, .. }=>true | .store .. =>true | _=>false
def idxPairs(n:Nat) :List (Nat×Nat):=(List.range n).flatMap fun j=>(List.range j).map fun i=>(i,j)
def newO(o:Oper) :Bool:=match o.op with | .alloc _ | .box .. | .buildSlice .. | .makeSlice .. =>true | _=>false
def okDraw(ops:Array Oper) :Bool:=
  (ops.toList.zipIdx.all fun (o,i)=>o.after.toList.all fun e=> !Region.binds .any e || decide (e.on<i)) &&
  (let b:=Region.before ops
   (idxPairs ops.size).all fun (i,j)=>match ops[i]?,ops[j]? with
     | some x,some y=>(b.getD j 0).testBit i || (x.apart ops y &&(!(actsB x &&actsB y) || (newO x &&newO y)) &&(!(readsB x &&actsB y) || makesB y) &&(!(actsB x &&readsB y) || makesB x))
     | _,_=>false) &&
  (let b:=Region.before ops
   (List.range ops.size).all fun i=> !((ops[i]?).map readsB).getD false || (idxPairs ops.size).all fun (p,q)=> !(((ops[p]?).map actsB).getD false &&((ops[q]?).map actsB).getD false &&(b.getD i 0).testBit q) || (b.getD i 0).testBit p)
def actsAhead(ops:Array Oper)(i:Nat) :Nat:=
 ((List.range ops.size).filter fun j=>((Region.before ops).getD i 0).testBit j &&((ops[j]?).map actsB).getD false).length
def lenB(o:Oper) :Bool:=match o.op with | .call {callee:= .builtin .len, .. }=>true | _=>false
def lenFree(o:Oper)(ev:Operand→Value) :Bool:=
 match o.op with
 | .call {callee:= .builtin .len,args, .. }=>match args.toList.map ev with
  | [.map (some _)]=>false
  | _=>true
 | _=>true
def readsM(o:Oper) :Bool:=readsB o && !lenB o
def besideRead(ops:Array Oper)(j:Nat) :Bool:=
 ((ops[j]?).map wildB).getD false &&(List.range ops.size).any fun i=>((ops[i]?).map readsM).getD false && !((Region.before ops).getD j 0).testBit i && !((Region.before ops).getD i 0).testBit j
def nActs(ops:Array Oper)(i:Nat) :Nat:=((List.range i).filter fun j=>((ops[j]?).map actsB).getD false).length
def plainDraw(ops:Array Oper) :Bool:=(List.range ops.size).all fun i=>match ops[i]? with
 | some o=>match cls o with
  | .pure=>true
  | .reads=>lenB o || actsAhead ops i==nActs ops i
  | .acts=> !besideRead ops i
 | none=>true
def operandOk :Operand→Bool
 | .const v=>plainC v
 | .global _=>false
 | _=>true
def dstsOk(nt:Nat)(ops:Array Oper) :Bool:=ops.toList.all fun o=>(match o.dst with | some d=>decide (d<nt) | none=>true) &&o.op.operands.toList.all operandOk
inductive Ex where
 | normal
 | exit (id:Nat)
 | ret
section
variable (P:Program) (H:Hint) (call:FuncId→List Value→Hp→Option (Value×Hp))
def guardC{R:Type}(ops:Array Oper)(o:Oper)(e:Env)(yes no:Env→Option R) :Option R:=
 match o.guard with
 | none=>yes e
 | some (g,want)=>match (ops[g]?).bind (·.dst) with
  | some d=>match e.get d with
   | .bool b=>match b with
    | true=>match want with | true=>yes ((d, .bool true)::e) | false=>no ((d, .bool true)::e)
    | false=>match want with | true=>no ((d, .bool false)::e) | false=>yes ((d, .bool false)::e)
   | .tuple vs=>bif vs.isEmpty then no e else none
   | _=>none
  | none=>none
def opsC{R:Type}(ops:Array Oper) :List Oper→Env→Hp→(Env→Hp→Option R)→Option R
 | [],e,h,K=>K e h
 | o::rest,e,h,K=>guardC ops o e
   (fun e=>opC P H call e.eval o h fun v h'=>opsC ops rest (e.put o.dst v) h' K)
   (fun e=>opsC ops rest (e.put o.dst undef) h K)
def readBlk(o:Oper)(e:Env) :Option Nat:=
 match o.op with
 | .load _ x=>match x with
  | .tmp t=>match e.get t with
   | .pointer a=>a.map (·.block)
   | _=>none
  | _=>none
 | _=>none
def noteR(o:Oper)(i:Nat)(e:Env)(rs:List (Nat×Nat)) :List (Nat×Nat):=match readBlk o e with | some q=>(i,q)::rs | none=>rs
def beside(ops:Array Oper)(j:Nat)(rs:List (Nat×Nat))(h h':Hp) :Prop:=
 h.next≤h'.low∨∀i,i<ops.size→((ops[i]?).map readsM).getD false=true→((Region.before ops).getD j 0).testBit i=false→((Region.before ops).getD i 0).testBit j=false→∃q,(i,q)∈rs∧h'.new q=h.new q
noncomputable def needP{R:Type}(p:Prop)(K:Unit→Option R) :Option R:=open Classical in if p then K () else none
def Hp.relow(h:Hp)(n:Nat) :Hp:={h with low:=n}
noncomputable def opsL{R:Type}(ops:Array Oper) :List Oper→Env→Hp→(Env→Hp→Option R)→Option R
 | [],e,h,K=>K e h
 | o::rest,e,h,K=>guardC ops o e
   (fun e=>needP (lenB o=true→lenFree o e.eval=true) fun _=>opC P H call e.eval o h fun v h'=>opsL ops rest (e.put o.dst v) h' K)
   (fun e=>opsL ops rest (e.put o.dst undef) h K)
noncomputable def drawC{R:Type}(ops:Array Oper) :List Oper→Nat→Env→Hp→List Hp→List (Nat×Nat)→(Env→Hp→Option R)→Option R
 | [],_,e,h,_,_,K=>K e h
 | o::rest,i,e,h,hs,rs,K=>guardC ops o e
   (fun e=>match cls o with
    | .pure=>opC P H call e.eval o h fun v _=>drawC ops rest (i+1) (e.put o.dst v) h hs rs K
    | .reads=>needP (lenB o=true→lenFree o e.eval=true) fun _=>opC P H call e.eval o (hs.getD (actsAhead ops i) h) fun v _=>drawC ops rest (i+1) (e.put o.dst v) h hs (noteR o i e rs) K
    | .acts=>bif besideRead ops i then
      opC P H call e.eval o (h.relow h.next) fun v h'=>needP (beside ops i rs h h') fun _=>drawC ops rest (i+1) (e.put o.dst v) (h'.relow (min h.low h'.low)) (hs++[h'.relow (min h.low h'.low)]) rs K
     else opC P H call e.eval o h fun v h'=>drawC ops rest (i+1) (e.put o.dst v) h' (hs++[h']) rs K)
   (fun e=>drawC ops rest (i+1) (e.put o.dst undef) h (bif actsB o then hs++[h] else hs) rs K)
def firstId :Code→Option Nat
 | .region id _ _=>some id
 | .seq a _=>firstId a
 | .block _ b=>firstId b
 | .loop b=>firstId b
 | _=>none
def maskE(f:FuncId)(c:Code)(e:Env) :Env:=
 match firstId c with
 | some id=>match H.keep f id with
  | some l=>e.keep l
  | none=>e
 | none=>e
def seqK{R:Type}(next:Env→Hp→Option R)(K:Ex→Env→Hp→Option R) :Ex→Env→Hp→Option R
 | .normal,e,h=>next e h
 | .exit i,e,h=>K (.exit i) e h
 | .ret,e,h=>K .ret e h
def blockK{R:Type}(id:Nat)(K:Ex→Env→Hp→Option R) :Ex→Env→Hp→Option R
 | .normal,e,h=>K .normal e h
 | .exit i,e,h=>bif i==id then K .normal e h else K (.exit i) e h
 | .ret,e,h=>K .ret e h
abbrev Out :=Ex×Env×Hp
def loopN(D:Env→Hp→Option Out)(m:Env→Env) :Nat→Env→Hp→Option Out
 | 0,_,_=>none
 | n+1,e,h=>(D (m e) h).bind fun r=>match r with
  | (.normal,e',h')=>loopN D m n e' h'
  | r=>some r
noncomputable def loopD(D:Env→Hp→Option Out)(m:Env→Env)(e:Env)(h:Hp) :Option Out:=lfp fun n=>loopN D m n e h
noncomputable def codeC(f:FuncId)(nt:Nat) :Code→(R:Type)→Env→Hp→(Ex→Env→Hp→Option R)→Option R
 | .skip,_,e,h,K=>K .normal e h
 | .label _,_,e,h,K=>K .normal e h
 | .exit id,_,e,h,K=>K (.exit id) e h
 | .ret,_,e,h,K=>K .ret e h
 | .region _ ops draw,_,e,h,K=>bif dstsOk nt ops then
   (bif draw then (bif okDraw ops then drawC P H call ops ops.toList 0 e h [h] [] (K .normal) else none)
   else opsC P H call ops ops.toList e h (K .normal)) else none
 | .seq a b,R,e,h,K=>codeC f nt a R e h (seqK (fun e' h'=>codeC f nt b R (maskE H f b e') h' K) K)
 | .cond c a b,R,e,h,K=>match c with
  | .tmp t=>match e.get t with
   | .bool v=>match v with
    | true=>codeC f nt a R ((t, .bool true)::e) h K
    | false=>codeC f nt b R ((t, .bool false)::e) h K
   | _=>none
  | .const (.bool v)=>match v with
   | true=>codeC f nt a R e h K
   | false=>codeC f nt b R e h K
  | _=>none
 | .block id b,R,e,h,K=>codeC f nt b R e h (blockK id K)
 | .scope b,R,e,h,K=>codeC f nt b R e h K
 | .loop b,_,e,h,K=>(loopD (fun e h=>codeC f nt b Out e h fun ex e h=>some (ex,e,h)) (maskE H f b) e h).bind fun r=>K r.1 r.2.1 r.2.2
 | _,_,_,_,_=>none
def resC{R:Type}(h:Hp)(e:Env) :List ResultVar→(List Value→Option R)→Option R
 | [],K=>K []
 | .tmp t::rs,K=>resC h e rs fun vs=>K (e.get t::vs)
 | .cell a t::rs,K=>asPtrC (e.get a) fun p=>match p with
  | some ad=>loadC P h t ad fun u=>resC h e rs fun vs=>K (u::vs)
  | none=>none
def resK(fn:Func) :Ex→Env→Hp→Option (Value×Hp)
 | .exit _,_,_=>none
 | .normal,e,h=>resC P h e fn.results.toList fun vs=>match vs with | [v]=>some (v,h) | vs=>some (.tuple vs.toArray,h)
 | .ret,e,h=>resC P h e fn.results.toList fun vs=>match vs with | [v]=>some (v,h) | vs=>some (.tuple vs.toArray,h)
def envFrom :List Value→Nat→Env
 | [],_=>[]
 | v::vs,i=>(i,v)::envFrom vs (i+1)
noncomputable def funC(f:FuncId)(args:List Value)(h:Hp) :Option (Value×Hp):=
 match P.funcs[f]? with
 | some fn=>match fn.body with
  | some c => bif fn.name == "runtime.NumGoroutine" then none else codeC P H call f (max args.length fn.ntmps) c (Value × Hp) (envFrom args 0) h (resK P fn)
  | none=>none
 | none=>none
end
noncomputable def aN(P:Program)(H:Hint) :Nat→FuncId→List Value→Hp→Option (Value×Hp)
 | 0=>fun _ _ _=>none
 | k+1=>fun f args h=>bif H.isOv f then (match H.ov (aN P H k) f args h with | some v=>some (v,h) | none=>none) else funC P H (aN P H k) f args h
noncomputable def arun(P:Program)(H:Hint)(f:FuncId)(args:List Value)(h:Hp) :Option (Value×Hp):=lfp fun k=>aN P H k f args h
end Go.Proofs.Ytpfploolkmcalaa.AM
end
section
namespace Go.Proofs.Ytpfploolkmcalaa.AM
open Go
set_option linter.unusedSectionVars false
set_option linter.unusedSimpArgs false
section
variable {R S:Type} (G:R→Option S)
theorem needC_bind(b:Bool)(K:Unit→Option R) :(needC b K).bind G=needC b fun u=>(K u).bind G:=by cases b <;>rfl
theorem asIntC_bind(k:IntKind)(v:Value)(K:Int→Option R) :(asIntC k v K).bind G=asIntC k v fun n=>(K n).bind G:=by
 cases v <;>try rfl
 rename_i k' n
 unfold asIntC
 dsimp only
 cases decide (k'=k) <;>rfl
theorem asBoolC_bind(v:Value)(K:Bool→Option R) :(asBoolC v K).bind G=asBoolC v fun n=>(K n).bind G:=by cases v <;>rfl
theorem asStrC_bind(v:Value)(K:ByteArray→Option R) :(asStrC v K).bind G=asStrC v fun n=>(K n).bind G:=by cases v <;>rfl
theorem asSliceC_bind(v:Value)(K:Option Addr→Nat→Nat→Option R) :(asSliceC v K).bind G=asSliceC v fun a n c=>(K a n c).bind G:=by cases v <;>rfl
theorem asPtrC_bind(v:Value)(K:Option Addr→Option R) :(asPtrC v K).bind G=asPtrC v fun n=>(K n).bind G:=by cases v <;>rfl
theorem asMapC_bind(v:Value)(K:Option Nat→Option R) :(asMapC v K).bind G=asMapC v fun n=>(K n).bind G:=by cases v <;>rfl
theorem asAggC_bind(v:Value)(K:List Value→Option R) :(asAggC v K).bind G=asAggC v fun n=>(K n).bind G:=by cases v <;>rfl
theorem like1C_bind(z v:Value)(K:Value→Option R) :(like1C z v K).bind G=like1C z v fun u=>(K u).bind G:=by
 cases z <;>simp only [like1C,asIntC_bind,asBoolC_bind,asStrC_bind,asSliceC_bind,asPtrC_bind,asMapC_bind]
theorem likeCellsC_bind :∀(zs vs:List Value) (K:List Value→Option R),(likeCellsC zs vs K).bind G=likeCellsC zs vs fun u=>(K u).bind G
 | [],[],K=>rfl
 | [],_::_,K=>rfl
 | _::_,[],K=>rfl
 | z::zs,v::vs,K=>by simp only [likeCellsC,consC,like1C_bind,likeCellsC_bind zs vs]
theorem like2C_bind(z v:Value)(K:Value→Option R) :(like2C z v K).bind G=like2C z v fun u=>(K u).bind G:=by
 cases z <;>simp only [like2C,like1C_bind,asAggC_bind,likeCellsC_bind]
theorem likePartsC_bind :∀(zs vs:List Value) (K:List Value→Option R),(likePartsC zs vs K).bind G=likePartsC zs vs fun u=>(K u).bind G
 | [],[],K=>rfl
 | [],_::_,K=>rfl
 | _::_,[],K=>rfl
 | z::zs,v::vs,K=>by simp only [likePartsC,consC,like2C_bind,likePartsC_bind zs vs]
theorem like3C_bind(z v:Value)(K:Value→Option R) :(like3C z v K).bind G=like3C z v fun u=>(K u).bind G:=by
 cases z <;>simp only [like3C,like2C_bind]
 cases v <;>simp only [likePartsC_bind,Option.bind_none]
theorem ldC_bind(h:Hp)(z:Value)(a:Addr)(K:Value→Option R) :(h.ldC z a K).bind G=h.ldC z a fun u=>(K u).bind G:=by
 unfold Hp.ldC; split <;>simp only [like1C_bind,Option.bind_none]
theorem ldCellsC_bind(h:Hp)(a:Addr) :∀(zs:List Value) (i:Nat) (K:List Value→Option R),(h.ldCellsC a zs i K).bind G=h.ldCellsC a zs i fun u=>(K u).bind G
 | [],i,K=>rfl
 | z::zs,i,K=>by simp only [Hp.ldCellsC,ldC_bind,ldCellsC_bind h a zs]
theorem stC_bind(h:Hp)(a:Addr)(vs:List Value)(K:Hp→Option R) :(h.stC a vs K).bind G=h.stC a vs fun u=>(K u).bind G:=by
 unfold Hp.stC; split <;>simp only [needC_bind,Option.bind_none]
theorem intC_bind(op:BinOp)(k k':IntKind)(a b:Int)(K:Value→Option R) :(intC op k k' a b K).bind G=intC op k k' a b fun u=>(K u).bind G:=by
 cases op <;>simp only [intC,needC_bind]
theorem strC_bind(op:BinOp)(a b:ByteArray)(K:Value→Option R) :(strC op a b K).bind G=strC op a b fun u=>(K u).bind G:=by
 cases op <;>simp only [strC,needC_bind,Option.bind_none]
theorem eqlC_bind(op:BinOp)(b:Bool)(K:Value→Option R) :(eqlC op b K).bind G=eqlC op b fun u=>(K u).bind G:=by
 cases op <;>simp only [eqlC,Option.bind_none]
theorem nilC_bind(op:BinOp)(a b:Option Addr)(K:Value→Option R) :(nilC op a b K).bind G=nilC op a b fun u=>(K u).bind G:=by
 unfold nilC; (repeat' split) <;>simp only [eqlC_bind,Option.bind_none]
theorem binC_bind(op:BinOp)(d:Option TypeDesc)(q:Option (List Value))(x y:Value)(K:Value→Option R) :(binC op d q x y K).bind G=binC op d q x y fun u=>(K u).bind G:=by
 unfold binC
 split <;>(try rfl) <;>split <;>(try rfl) <;>(try simp only [intC_bind,strC_bind])
 ·split <;>simp only [eqlC_bind,Option.bind_none]
 ·split <;>simp only [nilC_bind,Option.bind_none]
 ·split <;>simp only [nilC_bind,Option.bind_none]
 ·split <;>simp only [needC_bind,Option.bind_none]
  congr 1; funext _
  split <;>simp only [eqlC_bind,Option.bind_none]
variable (P:Program)
theorem sizeC_bind(t:TypeId)(K:Nat→Option R) :(sizeC P t K).bind G=sizeC P t fun u=>(K u).bind G:=by unfold sizeC; split <;>rfl
theorem zeroC_bind(t:TypeId)(K:Value→Option R) :(zeroC P t K).bind G=zeroC P t fun u=>(K u).bind G:=by
 unfold zeroC; split <;>(try rfl)
 split <;>(try rfl)
 rw [needC_bind]
theorem elemC_bind(t:TypeId)(K:TypeId→Option R) :(elemC P t K).bind G=elemC P t fun u=>(K u).bind G:=by unfold elemC; split <;>rfl
theorem aggC_bind(t:TypeId)(K:Bool→Option R) :(aggC P t K).bind G=aggC P t fun u=>(K u).bind G:=by unfold aggC; split <;>rfl
theorem loadC_bind(h:Hp)(t:TypeId)(a:Addr)(K:Value→Option R) :(loadC P h t a K).bind G=loadC P h t a fun u=>(K u).bind G:=by
 unfold loadC
 simp only [aggC_bind,zeroC_bind]
 congr 1; funext b; congr 1; funext z
 cases b <;>simp only [cond_true,cond_false,ldC_bind,ldCellsC_bind,sizeC_bind,needC_bind]
theorem buildC_bind(t:TypeId)(ps:List (Nat×Value))(K:Value→Option R) :(buildC P t ps K).bind G=buildC P t ps fun u=>(K u).bind G:=by
 unfold buildC
 rw [zeroC_bind]
 congr 1; funext z
 split
 ·split <;>(try rfl)
  split <;>rfl
 ·rw [sizeC_bind]; congr 1; funext s; split <;>rfl
 ·rfl
theorem idxC_bind(a:Option Addr)(n s:Nat)(i:Int)(K:Value→Option R) :(idxC a n s i K).bind G=idxC a n s i fun u=>(K u).bind G:=by
 unfold idxC; rw [needC_bind]; congr 1; funext _; split <;>rfl
theorem cutC_bind(h:Hp)(a:Option Addr)(n c s:Nat)(lo hi:Option Int)(K:Value→Option R) :(cutC h a n c s lo hi K).bind G=cutC h a n c s lo hi fun u=>(K u).bind G:=by
 unfold cutC cutT; split
 ·rw [needC_bind]
 ·rename_i ad
  cases decide (ad.block<h.base) <;>simp only [cond_true,cond_false,needC_bind]
  split <;>simp only [needC_bind,Option.bind_none]
theorem srcC_bind(h:Hp)(s n:Nat)(x:Value)(K:List Value→Option R) :(srcC h s n x K).bind G=srcC h s n x fun u=>(K u).bind G:=by
 unfold srcC; split <;>(try rfl)
 ·split <;>rfl
 ·rw [needC_bind]
theorem growC_bind(h:Hp)(s bytes:Nat)(a:Option Addr)(n c m:Nat)(vs:List Value)(K:Value→Hp→Option R) :(growC h s bytes a n c m vs K).bind G=growC h s bytes a n c m vs fun u h=>(K u h).bind G:=by
 unfold growC growT growT0
 cases decide (m=0)
 ·simp only [cond_false,needC_bind]
  congr 1; funext _
  split
  ·rw [needC_bind]
  ·split
   ·rw [needC_bind]
   ·rw [needC_bind]; congr 1; funext _; split <;>rfl
 ·simp only [cond_true,needC_bind]
theorem appendC_bind(ts:List TypeId)(as:List Value)(h:Hp)(K:Value→Hp→Option R) :(appendC P ts as h K).bind G=appendC P ts as h fun u h=>(K u h).bind G:=by
 unfold appendC
 split
 ·simp only [elemC_bind,sizeC_bind,zeroC_bind,needC_bind]
  congr 1; funext e; congr 1; funext s; congr 1; funext z; congr 1; funext _
  split <;>(try rfl)
  split <;>simp only [asSliceC_bind,asStrC_bind,srcC_bind,growC_bind,Option.bind_none]
 ·rfl
theorem putC_bind(h:Hp)(s:Nat)(a:Option Addr)(k:Nat)(vs:List Value)(K:Value→Hp→Option R) :(putC h s a k vs K).bind G=putC h s a k vs fun u h=>(K u h).bind G:=by
 unfold putC putT
 cases decide (k=0)
 ·simp only [cond_false]
  split <;>simp only [needC_bind,stC_bind,Option.bind_none]
 ·rfl
theorem copyC_bind(ts:List TypeId)(as:List Value)(h:Hp)(K:Value→Hp→Option R) :(copyC P ts as h K).bind G=copyC P ts as h fun u h=>(K u h).bind G:=by
 unfold copyC
 split
 ·simp only [elemC_bind,sizeC_bind,asSliceC_bind]
  congr 1; funext e; congr 1; funext s; congr 1; funext a n c
  split <;>simp only [asSliceC_bind,asStrC_bind,srcC_bind,putC_bind,Option.bind_none]
 ·rfl
theorem lenC_bind(ts:List TypeId)(as:List Value)(h:Hp)(K:Value→Option R) :(lenC P ts as h K).bind G=lenC P ts as h fun u=>(K u).bind G:=by
 unfold lenC
 split
 ·split <;>simp only [asStrC_bind,asSliceC_bind,asMapC_bind,Option.bind_none]
  congr 1; funext a
  split <;>(try rfl)
  split <;>rfl
 ·rfl
theorem mostFrom_bind(big:Bool)(k:IntKind) :∀(l:List Value) (a:Int) (K:Value→Option R),(mostFrom big k a l K).bind G=mostFrom big k a l fun u=>(K u).bind G
 | [],a,K=>rfl
 | v::r,a,K=>by simp only [mostFrom,asIntC_bind,mostFrom_bind big k r]
theorem mostC_bind(big:Bool)(l:List Value)(K:Value→Option R) :(mostC big l K).bind G=mostC big l fun u=>(K u).bind G:=by
 unfold mostC; split <;>(try rfl)
 split <;>simp only [mostFrom_bind,Option.bind_none]
theorem mapTypeC_bind(t:TypeId)(K:TypeId→TypeId→Option R) :(mapTypeC P t K).bind G=mapTypeC P t fun u v=>(K u v).bind G:=by unfold mapTypeC; split <;>rfl
theorem mapAtC_bind(h:Hp)(x:Value)(K:List (Value×Value)→Option R) :(mapAtC h x K).bind G=mapAtC h x fun u=>(K u).bind G:=by
 unfold mapAtC; rw [asMapC_bind]; congr 1; funext a; split <;>(try rfl)
 split <;>rfl
theorem lkC_bind(es:List (Value×Value))(key z:Value)(K:Value→Bool→Option R) :(lkC es key z K).bind G=lkC es key z fun u p=>(K u p).bind G:=by
 unfold lkC; split <;>rfl
theorem lookC_bind(t:TypeId)(x key:Value)(ok:Bool)(h:Hp)(K:Value→Option R) :(lookC P t x key ok h K).bind G=lookC P t x key ok h fun u=>(K u).bind G:=by
 unfold lookC
 simp only [mapTypeC_bind,needC_bind,zeroC_bind,mapAtC_bind,lkC_bind,like2C_bind]
theorem mapPutC_bind(t:TypeId)(m key v:Value)(h:Hp)(K:Hp→Option R) :(mapPutC P t m key v h K).bind G=mapPutC P t m key v h fun u=>(K u).bind G:=by
 unfold mapPutC
 simp only [mapTypeC_bind,needC_bind,asMapC_bind]
 congr 1; funext kt e; congr 1; funext _; congr 1; funext a
 split <;>(try rfl)
 split <;>(try rfl)
 split <;>rfl
theorem mapDropC_bind(ts:List TypeId)(as:List Value)(h:Hp)(K:Value→Hp→Option R) :(mapDropC P ts as h K).bind G=mapDropC P ts as h fun u h=>(K u h).bind G:=by
 unfold mapDropC
 split
 ·simp only [mapTypeC_bind,needC_bind,asMapC_bind]
  congr 1; funext kt e; congr 1; funext _; congr 1; funext a
  split <;>(try rfl)
  split <;>(try rfl)
  split <;>rfl
 ·rfl
theorem convC_bind(s d:TypeId)(x:Value)(h:Hp)(K:Value→Option R) :(convC P s d x h K).bind G=convC P s d x h fun u=>(K u).bind G:=by
 unfold convC
 split
 ·split <;>rfl
 ·split <;>simp only [needC_bind,Option.bind_none]
 ·simp only [asStrC_bind]
 ·split <;>(try rfl)
  rw [asSliceC_bind]; congr 1; funext a n _
  split <;>simp only [ldCellsC_bind]
 ·rfl
theorem unC_bind(op:UnOp)(x:Value)(K:Value→Option R) :(unC op x K).bind G=unC op x fun u=>(K u).bind G:=by
 unfold unC; split <;>(try rfl) <;>split <;>rfl
theorem partC_bind(t:TypeId)(cs:List Value)(off:Nat)(K:Value→Option R) :(partC P t cs off K).bind G=partC P t cs off fun u=>(K u).bind G:=by
 unfold partC
 rw [aggC_bind]
 congr 1; funext b
 cases b
 ·simp only [cond_false,zeroC_bind]; congr 1; funext z; split <;>simp only [like1C_bind,Option.bind_none]
 ·simp only [cond_true,sizeC_bind]
theorem fieldC_bind(t:TypeId)(f:Nat)(K:Field→Option R) :(fieldC P t f K).bind G=fieldC P t f fun u=>(K u).bind G:=by
 unfold fieldC; split <;>(try rfl)
 split <;>rfl
variable (call:FuncId→List Value→Hp→Option (Value×Hp)) (H:Hint)
theorem callC_bind(f:Value)(as:List Value)(t:TypeId)(h:Hp)(K:Value→Hp→Option R) :(callC P call f as t h K).bind G=callC P call f as t h fun u h=>(K u h).bind G:=by
 unfold callC
 split <;>(try rfl)
 split <;>(try rfl)
 rw [Option.bind_assoc]
 congr 1; funext r
 split <;>simp only [like3C_bind]
theorem opC_bind(ev:Operand→Value)(o:Oper)(h:Hp)(K:Value→Hp→Option R) :(opC P H call ev o h K).bind G=opC P H call ev o h fun u h=>(K u h).bind G:=by
 unfold opC
 split <;>(first | (with_reducible rfl) | skip) <;>(try simp only [needC_bind,asIntC_bind,asBoolC_bind,asStrC_bind,asSliceC_bind,asPtrC_bind,asAggC_bind,zeroC_bind,sizeC_bind,elemC_bind,buildC_bind,binC_bind,unC_bind,convC_bind,fieldC_bind,partC_bind,lookC_bind,mapPutC_bind,mapTypeC_bind,idxC_bind,Option.bind_none])
 case h_3=>congr 1; funext t; cases t <;>rfl
 case h_7=>congr 1; funext e; congr 1; funext s; congr 1; funext _; congr 1; funext z; congr 1; funext _; split <;>rfl
 case h_8=>
  congr 1; funext a; cases a <;>simp only [Option.bind_none,loadC_bind]
 case h_9=>congr 1; funext a; cases a <;>simp only [Option.bind_none,sizeC_bind,needC_bind,stC_bind]
 case h_10=>split <;>(try rfl); split <;>rfl
 case h_16=>
  congr 1; funext e; split <;>simp only [zeroC_bind,Option.bind_none]
  congr 1; funext z
  split <;>(try rfl)
  split <;>simp only [needC_bind,Option.bind_none]
 case h_17=>split <;>simp only [asStrC_bind,needC_bind,sizeC_bind,asSliceC_bind,cutC_bind,Option.bind_none]
 case h_18=>
  congr 1; funext fd; congr 1; funext s; congr 1; funext _; congr 1; funext a
  split <;>rfl
 case h_20=>
  split <;>simp only [sizeC_bind,asSliceC_bind,asPtrC_bind,Option.bind_none]
  ·congr 1; funext s; congr 1; funext a n _; split <;>simp only [idxC_bind,Option.bind_none]
  ·congr 1; funext s; congr 1; funext a; split <;>simp only [idxC_bind,Option.bind_none]
 case h_21=>
  split <;>simp only [asStrC_bind,sizeC_bind,asAggC_bind,Option.bind_none]
  ·congr 1; funext s; split <;>simp only [needC_bind,Option.bind_none]
  ·congr 1; funext s; congr 1; funext cs; split <;>simp only [needC_bind,partC_bind,Option.bind_none]
 case h_24=>split <;>(try rfl); split <;>rfl
 case h_25=>split <;>simp only [lenC_bind,appendC_bind,copyC_bind,mostC_bind,mapDropC_bind,Option.bind_none]
 case h_26=>simp only [callC_bind]
end
end Go.Proofs.Ytpfploolkmcalaa.AM
end
section
namespace Go.Proofs.Ytpfploolkmcalaa.AM
open Go
set_option linter.unusedSectionVars false
set_option linter.unusedSimpArgs false
section
variable {R S:Type} (G:R→Option S) (P:Program) (H:Hint) (call:FuncId→List Value→Hp→Option (Value×Hp))
theorem guardC_bind(ops:Array Oper)(o:Oper)(e:Env)(yes no:Env→Option R) :(guardC ops o e yes no).bind G=guardC ops o e (fun e=>(yes e).bind G) (fun e=>(no e).bind G):=by
 unfold guardC
 split <;>(try rfl)
 split <;>(try rfl)
 split <;>(try rfl)
 ·split <;>split <;>rfl
 ·rename_i vs _
  cases vs.isEmpty <;>rfl
theorem opsC_bind(ops:Array Oper) :∀(l:List Oper) (e:Env) (h:Hp) (K:Env→Hp→Option R),(opsC P H call ops l e h K).bind G=opsC P H call ops l e h fun e h=>(K e h).bind G
 | [],_,_,_=>rfl
 | o::rest,e,h,K=>by simp only [opsC,guardC_bind,opC_bind,opsC_bind ops rest]
theorem needP_bind(p:Prop)(K:Unit→Option R) :(needP p K).bind G=needP p fun u=>(K u).bind G:=by unfold needP; split <;>rfl
theorem drawC_bind(ops:Array Oper) :∀(l:List Oper) (i:Nat) (e:Env) (h:Hp) (hs:List Hp) (rs:List (Nat×Nat)) (K:Env→Hp→Option R),(drawC P H call ops l i e h hs rs K).bind G=drawC P H call ops l i e h hs rs fun e h=>(K e h).bind G
 | [],_,_,_,_,_,_=>rfl
 | o::rest,i,e,h,hs,rs,K=>by
  simp only [drawC,guardC_bind]
  congr 1
  ·funext e
   cases cls o <;>simp only [opC_bind,needP_bind,drawC_bind ops rest]
   cases besideRead ops i <;>simp only [cond_true,cond_false,opC_bind,needP_bind,drawC_bind ops rest]
  ·funext e
   simp only [drawC_bind ops rest]
theorem seqK_bind(next:Env→Hp→Option R)(K:Ex→Env→Hp→Option R)(ex:Ex)(e:Env)(h:Hp) :(seqK next K ex e h).bind G=seqK (fun e h=>(next e h).bind G) (fun ex e h=>(K ex e h).bind G) ex e h:=by cases ex <;>rfl
theorem blockK_bind(id:Nat)(K:Ex→Env→Hp→Option R)(ex:Ex)(e:Env)(h:Hp) :(blockK id K ex e h).bind G=blockK id (fun ex e h=>(K ex e h).bind G) ex e h:=by
 cases ex <;>try rfl
 rename_i i
 unfold blockK
 dsimp only
 cases i==id <;>rfl
theorem codeC_bind(f:FuncId)(nt:Nat)(c:Code) :∀{R S:Type} (G:R→Option S) (e:Env) (h:Hp) (K:Ex→Env→Hp→Option R),(codeC P H call f nt c R e h K).bind G=codeC P H call f nt c S e h fun ex e h=>(K ex e h).bind G:=by
 induction c with
 | skip=>intros; rfl
 | label l=>intros; rfl
 | exit i=>intros; rfl
 | ret=>intros; rfl
 | region id ops draw=>
  intro R S G e h K
  unfold codeC
  cases dstsOk nt ops <;>simp only [cond_true,cond_false,Option.bind_none]
  cases draw <;>simp only [cond_true,cond_false,opsC_bind]
  cases okDraw ops <;>simp only [cond_true,cond_false,drawC_bind,Option.bind_none]
 | seq a b iha ihb=>
  intro R S G e h K
  unfold codeC
  rw [iha]
  congr 1
  funext ex e h
  rw [seqK_bind]
  congr 1
  funext e h
  rw [ihb]
 | cond x a b iha ihb=>
  intro R S G e h K
  unfold codeC
  split
  ·split <;>(try rfl)
   split
   ·rw [iha]
   ·rw [ihb]
  ·split
   ·rw [iha]
   ·rw [ihb]
  ·rfl
 | block id b ih=>
  intro R S G e h K
  unfold codeC
  rw [ih]
  congr 1
  funext ex e h
  rw [blockK_bind]
 | loop b ih=>
  intro R S G e h K
  unfold codeC
  rw [Option.bind_assoc]
 | rangeFunc=>intros; rfl
 | scope b ih=>
  intro R S G e h K
  unfold codeC
  exact ih G e h K
 | goto=>intros; rfl
 | refuse=>intros; rfl
noncomputable def codeD(f:FuncId)(nt:Nat)(c:Code)(e:Env)(h:Hp) :Option Out:=codeC P H call f nt c Out e h fun ex e h=>some (ex,e,h)
theorem codeC_eq(f:FuncId)(nt:Nat)(c:Code)(e:Env)(h:Hp)(K:Ex→Env→Hp→Option R) :codeC P H call f nt c R e h K=(codeD P H call f nt c e h).bind fun r=>K r.1 r.2.1 r.2.2:=by
 unfold codeD
 rw [codeC_bind]
 rfl
theorem opC_eq(ev:Operand→Value)(o:Oper)(h:Hp)(K:Value→Hp→Option R) :opC P H call ev o h K=(opC P H call ev o h fun v h=>some (v,h)).bind fun r=>K r.1 r.2:=by
 rw [opC_bind]; rfl
theorem get_keep(l:List Nat)(e:Env)(t:Nat)(h:t∈l) :(e.keep l).get t=e.get t:=by
 induction l with
 | nil=>cases h
 | cons x l ih=>
  simp only [Env.keep,List.map_cons,Env.get]
  by_cases hx:x=t
  ·subst hx; simp
  ·have:(x==t)=false:=by simpa using hx
   rw [this,cond_false]
   exact ih (by cases h with | head=>exact absurd rfl hx | tail _ h=>exact h)
theorem keep_keep(l:List Nat)(e:Env) :(e.keep l).keep l=e.keep l:=by
 show l.map _=l.map _
 apply List.map_congr_left
 intro t ht
 rw [get_keep l e t ht]
theorem maskE_maskE(f:FuncId)(c:Code)(e:Env) :maskE H f c (maskE H f c e)=maskE H f c e:=by
 unfold maskE
 cases firstId c with
 | none=>rfl
 | some id=>
  dsimp only
  cases H.keep f id with
  | none=>rfl
  | some l=>exact keep_keep l e
theorem loopN_up(D:Env→Hp→Option Out)(m:Env→Env) :∀(n:Nat) (e:Env) (h:Hp) (v:Out),loopN D m n e h=some v→loopN D m (n+1) e h=some v
 | 0,_,_,_,hv=>by cases hv
 | n+1,e,h,v,hv=>by
  rw [loopN] at hv ⊢
  cases hd:D (m e) h with
  | none=>rw [hd] at hv; cases hv
  | some r=>
   rw [hd] at hv
   simp only [Option.bind_some] at hv ⊢
   obtain ⟨ex,e',h'⟩:=r
   cases ex with
   | normal=>exact loopN_up D m n e' h' v hv
   | exit i=>exact hv
   | ret=>exact hv
theorem loopD_eq(D:Env→Hp→Option Out)(m:Env→Env)(e:Env)(h:Hp) :
  loopD D m e h=(D (m e) h).bind fun r=>match r with
   | (.normal,e',h')=>loopD D m e' h'
   | r=>some r:=by
 apply Option.ext
 intro v
 constructor
 ·intro hv
  obtain ⟨n,hn⟩:=lfp_some hv
  cases n with
  | zero=>cases hn
  | succ n=>
   rw [loopN] at hn
   cases hd:D (m e) h with
   | none=>rw [hd] at hn; cases hn
   | some r=>
    rw [hd] at hn
    simp only [Option.bind_some] at hn ⊢
    obtain ⟨ex,e',h'⟩:=r
    cases ex with
    | normal=>exact lfp_eq (F:=fun n=>loopN D m n e' h') (fun n v=>loopN_up D m n e' h' v) hn
    | exit i=>exact hn
    | ret=>exact hn
 ·intro hv
  cases hd:D (m e) h with
  | none=>rw [hd] at hv; cases hv
  | some r=>
   rw [hd] at hv
   simp only [Option.bind_some] at hv
   obtain ⟨ex,e',h'⟩:=r
   cases ex with
   | normal=>
    obtain ⟨n,hn⟩:=lfp_some hv
    exact lfp_eq (F:=fun n=>loopN D m n e h) (n:=n+1) (fun n v=>loopN_up D m n e h v) (by show loopN D m (n+1) e h=some v; rw [loopN,hd]; exact hn)
   | exit i=>exact lfp_eq (F:=fun n=>loopN D m n e h) (n:=1) (fun n v=>loopN_up D m n e h v) (by show loopN D m 1 e h=some v; rw [loopN,hd]; exact hv)
   | ret=>exact lfp_eq (F:=fun n=>loopN D m n e h) (n:=1) (fun n v=>loopN_up D m n e h v) (by show loopN D m 1 e h=some v; rw [loopN,hd]; exact hv)
theorem loopD_mask(D:Env→Hp→Option Out)(f:FuncId)(b:Code)(e:Env)(h:Hp) :loopD D (maskE H f b) (maskE H f b e) h=loopD D (maskE H f b) e h:=by
 rw [loopD_eq,loopD_eq D _ e h,maskE_maskE]
theorem loop_eq(f:FuncId)(nt:Nat)(b:Code)(e:Env)(h:Hp)(K:Ex→Env→Hp→Option R) :
  codeC P H call f nt (.loop b) R e h K=codeC P H call f nt b R (maskE H f b e) h (seqK (fun e' h'=>codeC P H call f nt (.loop b) R (maskE H f b e') h' K) K):=by
 rw [codeC_eq (c:=b)]
 unfold codeC
 show (loopD (codeD P H call f nt b) (maskE H f b) e h).bind _=_
 rw [loopD_eq,Option.bind_assoc]
 congr 1
 funext r
 obtain ⟨ex,e',h'⟩:=r
 cases ex with
 | normal=>
  show _=(loopD (codeD P H call f nt b) (maskE H f b) (maskE H f b e') h').bind _
  rw [loopD_mask]
 | exit i=>rfl
 | ret=>rfl
end
/-! ### calls -/
def LeC(c1 c2:FuncId→List Value→Hp→Option (Value×Hp)) :Prop:=∀g as h r,c1 g as h=some r→c2 g as h=some r
section
variable (P:Program) (H:Hint) {c1 c2:FuncId→List Value→Hp→Option (Value×Hp)}
theorem opC_irrel{R:Type}(ev:Operand→Value)(o:Oper)(h:Hp)(K:Value→Hp→Option R)(hb:callB o=false) :opC P H c1 ev o h K=opC P H c2 ev o h K:=by
 unfold opC
 split <;>first
  | (with_reducible rfl)
  | (rename_i heq; simp [callB,heq] at hb)
theorem opC_call{R:Type}(c:FuncId→List Value→Hp→Option (Value×Hp))(ev:Operand→Value)(o:Oper)(h:Hp)(K:Value→Hp→Option R)(hb:callB o=true) :
  ∃f args ts,o.op= .call {callee:= .value f,args,argTypes:=ts}∧opC P H c ev o h K=callC P c (ev f) (args.toList.map ev) o.type h K:=by
 unfold callB at hb
 split at hb
 ·rename_i f args ts heq
  refine ⟨f,args,ts,heq, ?_⟩
  simp only [opC,heq]
 ·cases hb
theorem callC_mono{R:Type}(hc:LeC c1 c2)(f:Value)(as:List Value)(t:TypeId)(h:Hp)(K:Value→Hp→Option R)(r:R)(hr:callC P c1 f as t h K=some r) :callC P c2 f as t h K=some r:=by
 unfold callC at hr ⊢
 split at hr <;>(try cases hr)
 split at hr <;>(try cases hr)
 cases hq:c1 _ _ h with
 | none=>rw [hq] at hr; cases hr
 | some q=>rw [hq] at hr; rw [hc _ _ _ _ hq]; exact hr
theorem opC_mono(hc:LeC c1 c2)(ev:Operand→Value)(o:Oper)(h:Hp)(r:Value×Hp)(hr:opC P H c1 ev o h (fun v h=>some (v,h))=some r) :opC P H c2 ev o h (fun v h=>some (v,h))=some r:=by
 cases hb:callB o with
 | false=>rw [opC_irrel P H (c1:=c2) (c2:=c1) _ _ _ _ hb]; exact hr
 | true=>
  obtain ⟨f,args,ts,heq,e1⟩:=opC_call P H c1 ev o h (fun v h=>some (v,h)) hb
  obtain ⟨f',args',ts',heq',e2⟩:=opC_call P H c2 ev o h (fun v h=>some (v,h)) hb
  rw [heq] at heq'
  cases heq'
  rw [e2]
  rw [e1] at hr
  exact callC_mono P hc _ _ _ _ _ _ hr
theorem guardC_mono{R:Type}{ops:Array Oper}{o:Oper}{e:Env}{y1 n1 y2 n2:Env→Option R}{r:R}(hy:∀e,y1 e=some r→y2 e=some r)(hn:∀e,n1 e=some r→n2 e=some r)
  (h:guardC ops o e y1 n1=some r):guardC ops o e y2 n2=some r:=by
 unfold guardC at h ⊢
 split at h
 ·exact hy _ h
 ·split at h
  ·split at h
   ·split at h <;>split at h <;>first | exact hy _ h | exact hn _ h
   ·rename_i vs _
    cases hv:vs.isEmpty <;>rw [hv] at h
    ·cases h
    ·exact hn _ h
   ·cases h
  ·cases h
theorem needC_some{R:Type}{b:Bool}{K:Unit→Option R}{r:R}(h:needC b K=some r) :b=true∧K ()=some r:=by
 cases b
 ·cases h
 ·exact ⟨rfl,h⟩
theorem opsC_mono{R:Type}(hc:LeC c1 c2)(ops:Array Oper)(K:Env→Hp→Option R)(r:R) :∀(l:List Oper) (e:Env) (h:Hp),opsC P H c1 ops l e h K=some r→opsC P H c2 ops l e h K=some r
 | [],_,_,hr=>hr
 | o::rest,e,h,hr=>by
  rw [opsC] at hr ⊢
  refine guardC_mono (fun e he=> ?_) (fun e he=>opsC_mono hc ops K r rest _ _ he) hr
  rw [opC_eq] at he ⊢
  obtain ⟨q,hq,hk⟩:=Option.bind_eq_some_iff.1 he
  rw [opC_mono P H hc _ _ _ _ hq]
  exact opsC_mono hc ops K r rest _ _ hk
theorem needP_some{R:Type}{p:Prop}{K:Unit→Option R}{r:R}(h:needP p K=some r) :p∧K ()=some r:=by
 unfold needP at h
 split at h
 ·exact ⟨by assumption,h⟩
 ·cases h
theorem needP_true{R:Type}{p:Prop}{K:Unit→Option R}(h:p) :needP p K=K ():=if_pos h
theorem drawC_mono{R:Type}(hc:LeC c1 c2)(ops:Array Oper)(K:Env→Hp→Option R)(r:R) :∀(l:List Oper) (i:Nat) (e:Env) (h:Hp) (hs:List Hp) (rs:List (Nat×Nat)),drawC P H c1 ops l i e h hs rs K=some r→drawC P H c2 ops l i e h hs rs K=some r
 | [],_,_,_,_,_,hr=>hr
 | o::rest,i,e,h,hs,rs,hr=>by
  rw [drawC] at hr ⊢
  refine guardC_mono (fun e he=> ?_) (fun e he=>drawC_mono hc ops K r rest _ _ _ _ _ he) hr
  cases hcl:cls o <;>simp only [hcl] at he ⊢
  ·rw [opC_eq] at he ⊢
   obtain ⟨q,hq,hk⟩:=Option.bind_eq_some_iff.1 he
   rw [opC_mono P H hc _ _ _ _ hq]
   exact drawC_mono hc ops K r rest _ _ _ _ _ hk
  ·obtain ⟨hf,he⟩:=needP_some he
   rw [needP_true hf]
   rw [opC_eq] at he ⊢
   obtain ⟨q,hq,hk⟩:=Option.bind_eq_some_iff.1 he
   rw [opC_mono P H hc _ _ _ _ hq]
   exact drawC_mono hc ops K r rest _ _ _ _ _ hk
  ·cases hbr:besideRead ops i <;>simp only [hbr,cond_true,cond_false] at he ⊢
   ·rw [opC_eq] at he ⊢
    obtain ⟨q,hq,hk⟩:=Option.bind_eq_some_iff.1 he
    rw [opC_mono P H hc _ _ _ _ hq]
    exact drawC_mono hc ops K r rest _ _ _ _ _ hk
   ·rw [opC_eq] at he ⊢
    obtain ⟨q,hq,hk⟩:=Option.bind_eq_some_iff.1 he
    rw [opC_mono P H hc _ _ _ _ hq]
    obtain ⟨hb,hk⟩:=needP_some hk
    simp only [Option.bind_some]
    rw [needP_true hb]
    exact drawC_mono hc ops K r rest _ _ _ _ _ hk
theorem loopN_mono{D1 D2:Env→Hp→Option Out}(m:Env→Env)(hD:∀e h v,D1 e h=some v→D2 e h=some v) :∀(n:Nat) (e:Env) (h:Hp) (v:Out),loopN D1 m n e h=some v→loopN D2 m n e h=some v
 | 0,_,_,_,hv=>by cases hv
 | n+1,e,h,v,hv=>by
  rw [loopN] at hv ⊢
  obtain ⟨q,hq,hk⟩:=Option.bind_eq_some_iff.1 hv
  rw [hD _ _ _ hq]
  obtain ⟨ex,e',h'⟩:=q
  cases ex with
  | normal=>exact loopN_mono m hD n e' h' v hk
  | exit i=>exact hk
  | ret=>exact hk
theorem loopD_mono{D1 D2:Env→Hp→Option Out}(m:Env→Env)(hD:∀e h v,D1 e h=some v→D2 e h=some v)(e:Env)(h:Hp)(v:Out)(hv:loopD D1 m e h=some v) :loopD D2 m e h=some v:=by
 obtain ⟨n,hn⟩:=lfp_some hv
 exact lfp_eq (F:=fun n=>loopN D2 m n e h) (fun n v=>loopN_up D2 m n e h v) (loopN_mono m hD n e h v hn)
theorem codeC_mono(hc:LeC c1 c2)(f:FuncId)(nt:Nat)(c:Code) :∀{R:Type} (e:Env) (h:Hp) (K1 K2:Ex→Env→Hp→Option R) (r:R),(∀ex e h,K1 ex e h=some r→K2 ex e h=some r)→
  codeC P H c1 f nt c R e h K1=some r→codeC P H c2 f nt c R e h K2=some r:=by
 induction c with
 | skip=>intro R e h K1 K2 r hK hr; exact hK _ _ _ hr
 | label l=>intro R e h K1 K2 r hK hr; exact hK _ _ _ hr
 | exit i=>intro R e h K1 K2 r hK hr; exact hK _ _ _ hr
 | ret=>intro R e h K1 K2 r hK hr; exact hK _ _ _ hr
 | region id ops draw=>
  intro R e h K1 K2 r hK hr
  unfold codeC at hr ⊢
  cases hd:dstsOk nt ops <;>rw [hd] at hr <;>simp only [cond_true,cond_false] at hr ⊢
  ·cases hr
  have key:∀(A:(Env→Hp→Option R)→Option R) (B:(Env→Hp→Option (Env×Hp))→Option (Env×Hp)),(∀K,A K=(B fun e h=>some (e,h)).bind fun q=>K q.1 q.2)→A (K1 .normal)=some r→A (K2 .normal)=some r:=by
   intro A B hAB hA
   rw [hAB] at hA ⊢
   obtain ⟨q,hq,hk⟩:=Option.bind_eq_some_iff.1 hA
   rw [hq]
   exact hK _ _ _ hk
  cases draw <;>simp only [cond_true,cond_false] at hr ⊢
  ·refine opsC_mono P H hc ops _ r _ _ _ ?_
   exact key (fun K=>opsC P H c1 ops ops.toList e h K) (fun K=>opsC P H c1 ops ops.toList e h K) (fun K=>by rw [opsC_bind]; rfl) hr
  ·cases ho:okDraw ops <;>rw [ho] at hr <;>simp only [cond_true,cond_false] at hr ⊢
   ·cases hr
   refine drawC_mono P H hc ops _ r _ _ _ _ _ _ ?_
   exact key (fun K=>drawC P H c1 ops ops.toList 0 e h [h] [] K) (fun K=>drawC P H c1 ops ops.toList 0 e h [h] [] K) (fun K=>by rw [drawC_bind]; rfl) hr
 | seq a b iha ihb=>
  intro R e h K1 K2 r hK hr
  unfold codeC at hr ⊢
  refine iha _ _ _ _ _ (fun ex e h hx=> ?_) hr
  cases ex with
  | normal=>exact ihb _ _ _ _ _ hK hx
  | exit i=>exact hK _ _ _ hx
  | ret=>exact hK _ _ _ hx
 | cond x a b iha ihb=>
  intro R e h K1 K2 r hK hr
  unfold codeC at hr ⊢
  split at hr
  ·split at hr
   ·split at hr
    ·exact iha _ _ _ _ _ hK hr
    ·exact ihb _ _ _ _ _ hK hr
   ·cases hr
  ·split at hr
   ·exact iha _ _ _ _ _ hK hr
   ·exact ihb _ _ _ _ _ hK hr
  ·cases hr
 | block id b ih=>
  intro R e h K1 K2 r hK hr
  unfold codeC at hr ⊢
  refine ih _ _ _ _ _ (fun ex e h hx=> ?_) hr
  cases ex with
  | normal=>exact hK _ _ _ hx
  | exit i=>
   simp only [blockK] at hx ⊢
   cases hi:i==id <;>rw [hi] at hx <;>exact hK _ _ _ hx
  | ret=>exact hK _ _ _ hx
 | loop b ih=>
  intro R e h K1 K2 r hK hr
  unfold codeC at hr ⊢
  obtain ⟨q,hq,hk⟩:=Option.bind_eq_some_iff.1 hr
  rw [loopD_mono _ (fun e h v hv=>ih _ _ _ _ _ (fun _ _ _ hx=>hx) hv) _ _ _ hq]
  exact hK _ _ _ hk
 | rangeFunc=>intro R e h K1 K2 r hK hr; cases hr
 | scope b ih=>
  intro R e h K1 K2 r hK hr
  unfold codeC at hr ⊢
  exact ih _ _ _ _ _ hK hr
 | goto=>intro R e h K1 K2 r hK hr; cases hr
 | refuse=>intro R e h K1 K2 r hK hr; cases hr
theorem funC_mono(hc:LeC c1 c2)(f:FuncId)(args:List Value)(h:Hp)(r:Value×Hp)(hr:funC P H c1 f args h=some r) :funC P H c2 f args h=some r:=by
 unfold funC at hr ⊢
 split at hr
 ·split at hr
  ·rename_i fn _ _ c _
   cases hn : fn.name == "runtime.NumGoroutine" <;> rw [hn] at hr
   ·exact codeC_mono P H hc _ _ _ _ _ _ _ _ (fun _ _ _ hx=>hx) hr
   ·cases hr
  ·cases hr
 ·cases hr
theorem aN_up :∀(k:Nat),LeC (aN P H k) (aN P H (k+1))
 | 0=>fun _ _ _ _ hr=>by cases hr
 | k+1=>fun g as h r hr=>by
  unfold aN at hr ⊢
  cases ho:H.isOv g <;>rw [ho] at hr <;>simp only [cond_true,cond_false] at hr ⊢
  ·exact funC_mono P H (aN_up k) g as h r hr
  ·split at hr
   ·rename_i v hv
    rw [H.mono _ _ (aN_up k) g as h v hv]
    exact hr
   ·cases hr
theorem arun_of(k:Nat)(f:FuncId)(args:List Value)(h:Hp)(r:Value×Hp)(hr:aN P H k f args h=some r) :arun P H f args h=some r:=
 lfp_eq (F:=fun k=>aN P H k f args h) (fun n v=>aN_up P H n f args h v) hr
theorem arun_some{f:FuncId}{args:List Value}{h:Hp}{r:Value×Hp}(hr:arun P H f args h=some r) :∃k,aN P H k f args h=some r:=lfp_some hr
/-! What comes with all calls comes with calls of some depth. -/
theorem guardC_cases{R:Type}{ops:Array Oper}{o:Oper}{e:Env}{yes no:Env→Option R}{r:R}(h:guardC ops o e yes no=some r) :
  (∃e',yes e'=some r∧∀y n:Env→Option R,y e'=some r→guardC ops o e y n=some r)∨(∃e',no e'=some r∧∀y n:Env→Option R,n e'=some r→guardC ops o e y n=some r):=by
 unfold guardC at h ⊢
 split at h
 ·exact .inl ⟨_,h,fun _ _ h=>h⟩
 ·split at h
  ·split at h
   ·split at h <;>split at h <;>first | exact .inl ⟨_,h,fun _ _ h=>h⟩ | exact .inr ⟨_,h,fun _ _ h=>h⟩
   ·rename_i vs _
    cases hv:vs.isEmpty <;>rw [hv] at h
    ·cases h
    ·exact .inr ⟨_,h,fun _ _ h=>h⟩
   ·cases h
  ·cases h
end
end Go.Proofs.Ytpfploolkmcalaa.AM
end
section
namespace Go.Proofs.Ytpfploolkmcalaa.AM
open Go Go.RowKit
set_option linter.unusedSectionVars false
set_option linter.unusedSimpArgs false
structure Loc where
 block:Nat
 base:Nat
 top:Nat
 sz:Nat
abbrev Places :=Nat→Option Loc
mutual
inductive VRel (B:Nat) (ρ:Places):Value→Value→Prop
 | junk (v:Value):VRel B ρ junk v
 | bool (b:Bool):VRel B ρ (.bool b) (.bool b)
 | int (k:IntKind) (n:Int):VRel B ρ (.int k n) (.int k n)
 | string (s:ByteArray):VRel B ρ (.string s) (.string s)
 | ptrNil:VRel B ρ (.pointer none) (.pointer none)
 | ptrOld {a:Addr} (h:a.block<B):VRel B ρ (.pointer (some a)) (.pointer (some a))
 | ptrNew {r o:Nat} {l:Loc} (hr:ρ r=some l):VRel B ρ (.pointer (some ⟨r,o,none⟩)) (.pointer (some ⟨l.block,l.base+o,none⟩))
 | slNil:VRel B ρ (.slice none 0 0) (.slice none 0 0)
 | slOld {a:Addr} {n c:Nat} (h:a.block<B):VRel B ρ (.slice (some a) n c) (.slice (some a) n c)
 | slNew {r o n c:Nat} {l:Loc} (hr:ρ r=some l) (hn:n≤c) (ht:l.base+o+c*l.sz≤l.top):VRel B ρ (.slice (some ⟨r,o,none⟩) n 0) (.slice (some ⟨l.block,l.base+o,none⟩) n c)
 | slEmpty {r o:Nat} {b:Addr} {l:Loc} (hr:ρ r=some l):VRel B ρ (.slice (some ⟨r,o,none⟩) 0 0) (.slice (some b) 0 0)
 | slDang {a b:Addr} (h:a.block<B):VRel B ρ (.slice (some a) 0 0) (.slice (some b) 0 0)
 | func (fn:Fn) {f g:Array Value} {c d:Array Value} (hf:VRels B ρ f.toList g.toList) (hc:VRels B ρ c.toList d.toList):VRel B ρ (.func fn f c) (.func fn g d)
 | nilFunc:VRel B ρ .nilFunc .nilFunc
 | nilIface:VRel B ρ .nilIface .nilIface
 | mapNil:VRel B ρ (.map none) (.map none)
 | mapNew {r:Nat} {l:Loc} (hr:ρ r=some l):VRel B ρ (.map (some r)) (.map (some l.block))
 | agg {c d:Array Value} (h:VRels B ρ c.toList d.toList):VRel B ρ (.agg c) (.agg d)
 | tuple {c d:Array Value} (h:VRels B ρ c.toList d.toList):VRel B ρ (.tuple c) (.tuple d)
inductive VRels (B:Nat) (ρ:Places):List Value→List Value→Prop
 | nil:VRels B ρ [] []
 | cons {x y:Value} {xs ys:List Value} (h:VRel B ρ x y) (hs:VRels B ρ xs ys):VRels B ρ (x::xs) (y::ys)
end
def LeP(ρ ρ':Places) :Prop:=∀r l,ρ r=some l→ρ' r=some l
theorem LeP.refl(ρ:Places) :LeP ρ ρ:=fun _ _ h=>h
theorem LeP.trans{a b c:Places}(h:LeP a b)(k:LeP b c) :LeP a c:=fun r l hr=>k r l (h r l hr)
section
variable {B:Nat} {ρ ρ':Places}
mutual
theorem VRel.mono(hle:LeP ρ ρ') :∀{x y:Value},VRel B ρ x y→VRel B ρ' x y
 | _,_, .junk v=> .junk v
 | _,_, .bool b=> .bool b
 | _,_, .int k n=> .int k n
 | _,_, .string s=> .string s
 | _,_, .ptrNil=> .ptrNil
 | _,_, .ptrOld h=> .ptrOld h
 | _,_, .ptrNew hr=> .ptrNew (hle _ _ hr)
 | _,_, .slNil=> .slNil
 | _,_, .slOld h=> .slOld h
 | _,_, .slNew hr hn ht=> .slNew (hle _ _ hr) hn ht
 | _,_, .slEmpty hr=> .slEmpty (hle _ _ hr)
 | _,_, .slDang h=> .slDang h
 | _,_, .func fn hf hc=> .func fn (VRels.mono hle hf) (VRels.mono hle hc)
 | _,_, .nilFunc=> .nilFunc
 | _,_, .nilIface=> .nilIface
 | _,_, .mapNil=> .mapNil
 | _,_, .mapNew hr=> .mapNew (hle _ _ hr)
 | _,_, .agg h=> .agg (VRels.mono hle h)
 | _,_, .tuple h=> .tuple (VRels.mono hle h)
theorem VRels.mono(hle:LeP ρ ρ') :∀{xs ys:List Value},VRels B ρ xs ys→VRels B ρ' xs ys
 | _,_, .nil=> .nil
 | _,_, .cons h hs=> .cons (VRel.mono hle h) (VRels.mono hle hs)
end
theorem VRels.length :∀{xs ys:List Value},VRels B ρ xs ys→xs.length=ys.length
 | _,_, .nil=>rfl
 | _,_, .cons _ hs=>by simp [VRels.length hs]
theorem VRels.get :∀{xs ys:List Value},VRels B ρ xs ys→∀{i:Nat} {v:Value},xs[i]? =some v→∃v',ys[i]? =some v'∧VRel B ρ v v'
 | _,_, .nil,i,v,h=>by simp at h
 | _,_, .cons (x:=x) (y:=y) hx hs,0,v,h=>by
  simp only [List.getElem?_cons_zero,Option.some.injEq] at h
  subst h
  exact ⟨_,rfl,hx⟩
 | _,_, .cons hx hs,i+1,v,h=>by
  simp only [List.getElem?_cons_succ] at h ⊢
  exact VRels.get hs h
theorem VRels.of_get :∀{xs ys:List Value},xs.length=ys.length→(∀(i:Nat) (v v':Value),xs[i]? =some v→ys[i]? =some v'→VRel B ρ v v')→VRels B ρ xs ys
 | [],[],_,_=> .nil
 | [],_::_,h,_=>by simp at h
 | _::_,[],h,_=>by simp at h
 | x::xs,y::ys,hl,h=> .cons (h 0 x y rfl rfl) (VRels.of_get (by simpa using hl) fun i v v' h1 h2=>h (i+1) v v' (by simpa using h1) (by simpa using h2))
theorem VRels.append :∀{xs ys us vs:List Value},VRels B ρ xs ys→VRels B ρ us vs→VRels B ρ (xs++us) (ys++vs)
 | _,_,_,_, .nil,h=>h
 | _,_,_,_, .cons hx hs,h=> .cons hx (VRels.append hs h)
theorem VRels.take :∀{xs ys:List Value} (n:Nat),VRels B ρ xs ys→VRels B ρ (xs.take n) (ys.take n)
 | _,_,0,_=>by simpa using VRels.nil
 | _,_,n+1, .nil=>by simpa using VRels.nil
 | _,_,n+1, .cons hx hs=>by simpa using VRels.cons hx (VRels.take n hs)
theorem VRels.drop :∀{xs ys:List Value} (n:Nat),VRels B ρ xs ys→VRels B ρ (xs.drop n) (ys.drop n)
 | _,_,0,h=>by simpa using h
 | _,_,n+1, .nil=>by simpa using VRels.nil
 | _,_,n+1, .cons hx hs=>by simpa using VRels.drop n hs
theorem VRels.map{α:Type}{f g:α→Value}(l:List α)(h:∀x∈l,VRel B ρ (f x) (g x)) :VRels B ρ (l.map f) (l.map g):=by
 induction l with
 | nil=>exact .nil
 | cons x l ih=>exact .cons (h x (by simp)) (ih fun y hy=>h y (by simp [hy]))
theorem rel_plain1{v:Value}(h:plain1 v=true) :VRel B ρ v v:=by
 cases v with
 | bool b=>exact .bool b
 | int k n=>exact .int k n
 | string s=>exact .string s
 | pointer a=>cases a with
  | none=>exact .ptrNil
  | some a=>cases h
 | slice a n c=>cases a with
  | none=>
   simp [plain1] at h
   obtain ⟨rfl,rfl⟩:=h
   exact .slNil
  | some a=>cases h
 | map r=>cases r with
  | none=>exact .mapNil
  | some a=>cases h
 | nilFunc=>exact .nilFunc
 | nilIface=>exact .nilIface
 | _=>cases h
theorem rels_plain1{l:List Value}(h:l.all plain1=true) :VRels B ρ l l:=by
 induction l with
 | nil=>exact .nil
 | cons x l ih=>
  simp only [List.all_cons,Bool.and_eq_true] at h
  exact .cons (rel_plain1 h.1) (ih h.2)
theorem rel_plain{v:Value}(h:plainC v=true) :VRel B ρ v v:=by
 unfold plainC at h
 split at h
 ·exact .agg (rels_plain1 h)
 ·rename_i cs
  refine .tuple ?_
  generalize cs.toList=l at h
  induction l with
  | nil=>exact .nil
  | cons x l ih=>
   simp only [List.all_cons,Bool.and_eq_true] at h
   refine .cons ?_ (ih h.2)
   have h1:=h.1
   split at h1
   ·exact .agg (rels_plain1 h1)
   ·exact rel_plain1 h1
 ·exact rel_plain1 h
theorem okCell_one{v v':Value}(h:okCell v=true)(hr:VRel B ρ v v') :v'.oneCell'=true:=by
 cases hr <;>first | rfl | (cases h)
theorem oneCells_one :∀{vs vs':List Value},oneCells vs=true→VRels B ρ vs vs'→∀u∈vs',u.oneCell'=true
 | _,_,_, .nil,u,hu=>by cases hu
 | _,_,h, .cons hx hs,u,hu=>by
  simp only [oneCells,List.all_cons,Bool.and_eq_true] at h
  cases hu with
  | head=>exact okCell_one h.1 hx
  | tail _ hu=>exact oneCells_one (by simpa [oneCells] using h.2) hs u hu
theorem rel_cells{v v':Value}(ho:oneCells v.cells.toList=true)(hr:VRel B ρ v v') :VRels B ρ v.cells.toList v'.cells.toList:=by
 cases hr with
 | junk u=>simp [oneCells,junk,Value.cells,okCell] at ho
 | agg hs=>exact hs
 | tuple hs=>simp [oneCells,Value.cells,okCell] at ho
 | bool b=>exact .cons (.bool b) .nil
 | int k n=>exact .cons (.int k n) .nil
 | string s=>exact .cons (.string s) .nil
 | ptrNil=>exact .cons .ptrNil .nil
 | ptrOld h=>exact .cons (.ptrOld h) .nil
 | ptrNew h=>exact .cons (.ptrNew h) .nil
 | slNil=>exact .cons .slNil .nil
 | slOld h=>exact .cons (.slOld h) .nil
 | slNew a b c=>exact .cons (.slNew a b c) .nil
 | slEmpty a=>exact .cons (.slEmpty a) .nil
 | slDang h=>exact .cons (.slDang h) .nil
 | func fn a b=>exact .cons (.func fn a b) .nil
 | nilFunc=>exact .cons .nilFunc .nil
 | nilIface=>exact .cons .nilIface .nil
 | mapNil=>exact .cons .mapNil .nil
 | mapNew h=>exact .cons (.mapNew h) .nil
end
/-! ### heaps -/
def BlkRel(B:Nat)(ρ:Places)(w:World)(l:Loc)(b:Blk) :Prop:=
 ∃(c:Array Value) (t:TypeId),w.heap[l.block]? =some (.cells c t (0,0))∧c.size=l.top∧l.base+b.cells.length≤l.top∧b.sz=l.sz∧
  ∀i v,b.cells[i]? =some v→∃v',c[l.base+i]? =some v'∧VRel B ρ v v'
inductive ERels (B:Nat) (ρ:Places):List (Value×Value)→List MapEntry→Prop
 | nil:ERels B ρ [] []
 | cons {k v:Value} {e:MapEntry} {xs:List (Value×Value)} {es:List MapEntry} (hk:e.key=k) (hp:plain1 k=true) (hv:VRel B ρ v e.val) (h:ERels B ρ xs es):ERels B ρ ((k,v)::xs) (e::es)
def MapRel(B:Nat)(ρ:Places)(w:World)(l:Loc)(es:List (Value×Value)) :Prop:=
 ∃(c:Array MapEntry) (t:Nat),w.heap[l.block]? =some (.map c t)∧ERels B ρ es c.toList
structure Sim (B:Nat) (W:World) (ρ:Places) (h:Hp) (w:World):Prop where
 below:Below B W w
 low:B≤W.heap.size
 base:h.base=B
 first:B≤h.next
 old:∀a v,h.old a=some v→a.block<B∧∃u,w.cell? a=some u∧VRel B ρ v u
 dom:∀r l,ρ r=some l→B≤r∧r<h.next∧B≤l.block∧l.block<w.heap.size
 new:∀r b,h.new r=some b→∃l,ρ r=some l∧BlkRel B ρ w l b
 maps:∀r es,h.maps r=some es→∃l,ρ r=some l∧MapRel B ρ w l es
 apart:∀r1 b1 r2 b2 l1 l2,h.new r1=some b1→h.new r2=some b2→r1 ≠r2→ρ r1=some l1→ρ r2=some l2→l1.block=l2.block→
  (r1∈b2.par∧b1.rw=false∧l1.base+b1.cells.length≤l2.base+b2.cells.length)∨(r2∈b1.par∧b2.rw=false∧l2.base+b2.cells.length≤l1.base+b1.cells.length)
 mapsApart:∀r1 e1 r2 e2 l1 l2,h.maps r1=some e1→h.maps r2=some e2→r1 ≠r2→ρ r1=some l1→ρ r2=some l2→l1.block ≠l2.block
 free:∀r,h.hole r=true→B≤r∧r<h.next∧ρ r=none
def EnvRel(B:Nat)(ρ:Places)(e:Env)(tmps:Array Value) :Prop:=∀t,VRel B ρ (e.get t) (tmps.getD t undef)
section
variable {B:Nat} {W:World} {ρ:Places} {h:Hp} {w:World}
theorem Sim.new_lt(s:Sim B W ρ h w){r:Nat}{b:Blk}(hb:h.new r=some b) :B≤r∧r<h.next:=by
 obtain ⟨l,hl,_⟩:=s.new r b hb
 exact ⟨(s.dom r l hl).1,(s.dom r l hl).2.1⟩
theorem Sim.maps_lt(s:Sim B W ρ h w){r:Nat}{es:List (Value×Value)}(hb:h.maps r=some es) :B≤r∧r<h.next:=by
 obtain ⟨l,hl,_⟩:=s.maps r es hb
 exact ⟨(s.dom r l hl).1,(s.dom r l hl).2.1⟩
theorem Sim.new_old(s:Sim B W ρ h w){r:Nat}(hr:r<B) :h.new r=none:=by
 cases hb:h.new r with
 | none=>rfl
 | some b=>have:=(s.new_lt hb).1; omega
theorem Sim.next_none(s:Sim B W ρ h w) :ρ h.next=none:=by
 cases hb:ρ h.next with
 | none=>rfl
 | some l=>have:=(s.dom _ _ hb).2.1; omega
inductive ARel (B:Nat) (ρ:Places):Addr→Addr→Prop
 | old {a:Addr} (h:a.block<B):ARel B ρ a a
 | new {r o:Nat} {l:Loc} (hr:ρ r=some l):ARel B ρ ⟨r,o,none⟩ ⟨l.block,l.base+o,none⟩
theorem ARel.add{a a':Addr}(hr:ARel B ρ a a')(n:Nat) :ARel B ρ (a.add n) (a'.add n):=by
 cases hr with
 | old h=>exact .old (by unfold Addr.add; split <;>exact h)
 | new hr=>
  unfold Addr.add
  split
  ·exact .new hr
  ·simp only [Nat.add_assoc]
   exact .new hr
theorem ARel.ptr{a a':Addr}(hr:ARel B ρ a a') :VRel B ρ (.pointer (some a)) (.pointer (some a')):=by
 cases hr with
 | old h=>exact .ptrOld h
 | new hr=>exact .ptrNew hr
theorem rel_ptr{a:Addr}{v:Value}(hr:VRel B ρ (.pointer (some a)) v) :∃a',v= .pointer (some a')∧ARel B ρ a a':=by
 cases hr with
 | ptrOld h=>exact ⟨_,rfl, .old h⟩
 | ptrNew h=>exact ⟨_,rfl, .new h⟩
theorem add_spot{a:Addr}(n:Nat)(h:a.spot=none) :a.add n=⟨a.block,a.off+n,none⟩:=by
 unfold Addr.add
 split
 ·subst_vars; cases a; simp_all
 ·rfl
theorem cell_of_heap{w:World}{b:Nat}{c:Array Value}{t:TypeId}{f:Nat×Nat}(hb:w.heap[b]? =some (.cells c t f))(o:Nat) :w.cell? ⟨b,o,none⟩=c[o]? :=by
 simp [World.cell?,hb]
theorem Sim.cell(s:Sim B W ρ h w){a a':Addr}(ha:ARel B ρ a a'){v:Value}(hv:h.cell a=some v) :∃v',w.cell? a'=some v'∧VRel B ρ v v':=by
 cases ha with
 | old hlt=>
  unfold Hp.cell at hv
  rw [s.new_old hlt] at hv
  exact (s.old a v hv).2
 | @new r o l hr=>
  unfold Hp.cell at hv
  dsimp only at hv
  cases hb:h.new r with
  | none=>
   rw [hb] at hv
   have:=(s.old _ v hv).1
   have:=(s.dom r l hr).1
   simp at*
   omega
  | some b=>
   rw [hb] at hv
   simp only [Option.isNone_none,cond_true] at hv
   obtain ⟨l',hl',c,t,h1,h2,h3,h4,h5⟩:=s.new r b hb
   rw [hr] at hl'
   cases hl'
   obtain ⟨v',hv',hrel⟩:=h5 o v hv
   exact ⟨v',by rw [cell_of_heap h1]; exact hv',hrel⟩
end
end Go.Proofs.Ytpfploolkmcalaa.AM
end
section
namespace Go.Proofs.Ytpfploolkmcalaa.AM
open Go Go.RowKit
set_option linter.unusedSectionVars false
set_option linter.unusedSimpArgs false
section
variable {B:Nat} {W:World} {ρ:Places} {h:Hp} {w w':World}
theorem BlkRel.mono{ρ':Places}{l:Loc}{b:Blk}(hle:LeP ρ ρ')(hb:BlkRel B ρ w l b) :BlkRel B ρ' w l b:=by
 obtain ⟨c,t,h1,h2,h3,h4,h5⟩:=hb
 exact ⟨c,t,h1,h2,h3,h4,fun i v hv=>let ⟨v',a,b⟩:=h5 i v hv; ⟨v',a,b.mono hle⟩⟩
theorem ERels.mono{ρ':Places}(hle:LeP ρ ρ'){xs:List (Value×Value)}{es:List MapEntry}(he:ERels B ρ xs es) :ERels B ρ' xs es:=by
 induction he with
 | nil=>exact .nil
 | cons hk hp hv _ ih=>exact .cons hk hp (hv.mono hle) ih
theorem MapRel.mono{ρ':Places}{l:Loc}{es:List (Value×Value)}(hle:LeP ρ ρ')(hb:MapRel B ρ w l es) :MapRel B ρ' w l es:=by
 obtain ⟨c,t,h1,h2⟩:=hb
 exact ⟨c,t,h1,h2.mono hle⟩
theorem Sim.grow(s:Sim B W ρ h w)(hb:Below B w w')(hs:w.heap.size≤w'.heap.size)(hk:∀k,k<w.heap.size→w'.heap[k]? =w.heap[k]?) :Sim B W ρ h w' where
 below:=s.below.trans hb
 low:=s.low
 base:=s.base
 first:=s.first
 old:=fun a v hv=>by
  obtain ⟨h1,u,h2,h3⟩:=s.old a v hv
  exact ⟨h1,u,by rw [hb.cell h1]; exact h2,h3⟩
 dom:=fun r l hr=>by
  obtain ⟨a,b,c,d⟩:=s.dom r l hr
  exact ⟨a,b,c,by omega⟩
 new:=fun r b hr=>by
  obtain ⟨l,hl,c,t,h1,hrest⟩:=s.new r b hr
  exact ⟨l,hl,c,t,by rw [hk _ (s.dom r l hl).2.2.2]; exact h1,hrest⟩
 maps:=fun r es hr=>by
  obtain ⟨l,hl,c,t,h1,hrest⟩:=s.maps r es hr
  exact ⟨l,hl,c,t,by rw [hk _ (s.dom r l hl).2.2.2]; exact h1,hrest⟩
 apart:=s.apart
 mapsApart:=s.mapsApart
 free:=s.free
theorem Sim.drew(s:Sim B W ρ h w) :Sim B W ρ h w.drew:=s.grow ((Below.refl B w).drew) (Nat.le_refl _) (fun _ _=>rfl)
theorem Sim.alloc(s:Sim B W ρ h w)(o:Obj) :Sim B W ρ h (w.alloc o):=
 s.grow ((Below.refl B w).alloc (Nat.le_trans s.low s.below.size) o) (by show w.heap.size≤(w.heap.push o).size; simp) (fun k hk=>Below.heap_alloc w o k hk)
theorem Sim.relow(s:Sim B W ρ h w)(n:Nat) :Sim B W ρ {h with low:=n} w:=
 ⟨s.below,s.low,s.base,s.first,s.old,s.dom,s.new,s.maps,s.apart,s.mapsApart,s.free⟩
def addP(ρ:Places)(r:Nat)(l:Loc) :Places:=fun q=>if q=r then some l else ρ q
theorem addP_le(hn:ρ h.next=none)(l:Loc) :LeP ρ (addP ρ h.next l):=fun r k hr=>by
 unfold addP
 split
 ·rename_i e
  subst e
  rw [hn] at hr
  cases hr
 ·exact hr
theorem addP_self(r:Nat)(l:Loc) :addP ρ r l r=some l:=if_pos rfl
theorem addP_other{r q:Nat}(l:Loc)(hne:q ≠r) :addP ρ r l q=ρ q:=if_neg hne
theorem seal_new(h:Hp)(r q:Nat) :(h.fence r).new q=if q=r then (h.new q).map (fun b=>{b with rw:=false}) else h.new q:=by
 unfold Hp.fence
 by_cases e:q=r
 ·subst e; simp
 ·have:(q==r)=false:=by simpa using e
  simp [e,this]
theorem Sim.fence(s:Sim B W ρ h w)(r:Nat) :Sim B W ρ (h.fence r) w:=by
 have hb:∀q b,(h.fence r).new q=some b→∃b0,h.new q=some b0∧b.cells=b0.cells∧b.sz=b0.sz∧b.par=b0.par∧(b0.rw=false→b.rw=false):=by
  intro q b hq
  rw [seal_new] at hq
  split at hq
  ·cases hn:h.new q with
   | none=>rw [hn] at hq; cases hq
   | some b0=>
    rw [hn] at hq
    cases hq
    exact ⟨b0,rfl,rfl,rfl,rfl,fun _=>rfl⟩
  ·exact ⟨b,hq,rfl,rfl,rfl,fun h=>h⟩
 refine ⟨s.below,s.low,s.base,s.first,s.old,s.dom, ?_,s.maps, ?_,s.mapsApart,s.free⟩
 ·intro q b hq
  obtain ⟨b0,h0,hc,hs,hp,_⟩:=hb q b hq
  obtain ⟨l,hl,c,t,h1,h2,h3,h4,h5⟩:=s.new q b0 h0
  exact ⟨l,hl,c,t,h1,h2,by rw [hc]; exact h3,by rw [hs]; exact h4,by rw [hc]; exact h5⟩
 ·intro r1 b1 r2 b2 l1 l2 h1 h2 hne hl1 hl2 he
  obtain ⟨c1,k1,e1,_,p1,w1⟩:=hb r1 b1 h1
  obtain ⟨c2,k2,e2,_,p2,w2⟩:=hb r2 b2 h2
  rcases s.apart r1 c1 r2 c2 l1 l2 k1 k2 hne hl1 hl2 he with ⟨x,y,z⟩ | ⟨x,y,z⟩
  ·exact .inl ⟨by rw [p2]; exact x,w1 y,by rw [e1,e2]; exact z⟩
  ·exact .inr ⟨by rw [p1]; exact x,w2 y,by rw [e1,e2]; exact z⟩
theorem alloc_new(h:Hp)(cs:List Value)(sz:Nat)(par:List Nat)(q:Nat) :(h.alloc cs sz par).new q=if q=h.next then some ⟨cs,sz,true,par⟩ else h.new q:=by
 unfold Hp.alloc
 by_cases e:q=h.next
 ·subst e; simp
 ·have:(q==h.next)=false:=by simpa using e
  simp [e,this]
theorem Sim.add(s:Sim B W ρ h w)(cs:List Value)(sz:Nat)(par:List Nat)(l:Loc)(hB:B≤l.block)(hlt:l.block<w.heap.size)(hrel:BlkRel B (addP ρ h.next l) w l ⟨cs,sz,true,par⟩)
  (hap:∀q b k,h.new q=some b→ρ q=some k→k.block=l.block→q∈par∧b.rw=false∧k.base+b.cells.length≤l.base+cs.length):
  Sim B W (addP ρ h.next l) (h.alloc cs sz par) w where
 below:=s.below
 low:=s.low
 base:=s.base
 first:=Nat.le_trans s.first (Nat.le_succ _)
 old:=fun a v hv=>by
  obtain ⟨h1,u,h2,h3⟩:=s.old a v hv
  exact ⟨h1,u,h2,h3.mono (addP_le s.next_none l)⟩
 dom:=fun r k hr=>by
  show B≤r∧r<h.next+1∧_
  unfold addP at hr
  split at hr
  ·rename_i e
   subst e
   cases hr
   exact ⟨s.first,by omega,hB,hlt⟩
  ·obtain ⟨a,b,c,d⟩:=s.dom r k hr
   exact ⟨a,by omega,c,d⟩
 new:=fun r b hr=>by
  rw [alloc_new] at hr
  split at hr
  ·rename_i e
   subst e
   cases hr
   exact ⟨l,addP_self _ _,hrel⟩
  ·rename_i e
   obtain ⟨k,hk,hb⟩:=s.new r b hr
   exact ⟨k,by rw [addP_other _ e]; exact hk,hb.mono (addP_le s.next_none l)⟩
 maps:=fun r es hr=>by
  have hr':h.maps r=some es:=hr
  have e:r ≠h.next:=by have:=(s.maps_lt hr').2; omega
  obtain ⟨k,hk,hb⟩:=s.maps r es hr'
  exact ⟨k,by rw [addP_other _ e]; exact hk,hb.mono (addP_le s.next_none l)⟩
 apart:=fun r1 b1 r2 b2 l1 l2 h1 h2 hne hl1 hl2 he=>by
  rw [alloc_new] at h1 h2
  split at h1
  ·rename_i e1
   split at h2
   ·rename_i e2
    omega
   ·rename_i e2
    cases h1
    subst e1
    rw [addP_self] at hl1
    rw [addP_other _ e2] at hl2
    cases hl1
    obtain ⟨x,y,z⟩:=hap r2 b2 l2 h2 hl2 he.symm
    exact .inr ⟨x,y,z⟩
  ·rename_i e1
   split at h2
   ·rename_i e2
    cases h2
    subst e2
    rw [addP_self] at hl2
    rw [addP_other _ e1] at hl1
    cases hl2
    obtain ⟨x,y,z⟩:=hap r1 b1 l1 h1 hl1 he
    exact .inl ⟨x,y,z⟩
   ·rename_i e2
    rw [addP_other _ e1] at hl1
    rw [addP_other _ e2] at hl2
    exact s.apart r1 b1 r2 b2 l1 l2 h1 h2 hne hl1 hl2 he
 mapsApart:=fun r1 e1 r2 e2 l1 l2 h1 h2 hne hl1 hl2=>by
  have n1:r1 ≠h.next:=by have:=(s.maps_lt (r:=r1) (es:=e1) h1).2; omega
  have n2:r2 ≠h.next:=by have:=(s.maps_lt (r:=r2) (es:=e2) h2).2; omega
  rw [addP_other _ n1] at hl1
  rw [addP_other _ n2] at hl2
  exact s.mapsApart r1 e1 r2 e2 l1 l2 h1 h2 hne hl1 hl2
 free:=fun r hr=>by
  obtain ⟨a,b,c⟩:=s.free r hr
  refine ⟨a, ?_, ?_⟩
  ·show r<h.next+1
   omega
  ·rw [addP_other _ (by omega)]
   exact c
theorem Sim.fresh(s:Sim B W ρ h w)(cs:List Value)(sz:Nat)(c:Array Value)(t:TypeId)(hlen:cs.length≤c.size)
  (hrel:∀(i:Nat) (v:Value),cs[i]? =some v→∃v',c[i]? =some v'∧VRel B ρ v v') (par:List Nat):
  Sim B W (addP ρ h.next ⟨w.heap.size,0,c.size,sz⟩) (h.alloc cs sz par) (w.alloc (.cells c t)):=by
 have s':=s.alloc (.cells c t)
 have hw:B≤w.heap.size:=Nat.le_trans s.low s.below.size
 have hat:(w.alloc (.cells c t)).heap[w.heap.size]? =some (.cells c t (0,0)):=by show (w.heap.push _)[w.heap.size]? =_; simp
 refine s'.add cs sz par ⟨w.heap.size,0,c.size,sz⟩ hw (by show w.heap.size<(w.heap.push _).size; simp) ⟨c,t,hat,rfl,by simpa using hlen,rfl, ?_⟩ ?_
 ·intro i v hv
  obtain ⟨v',a,b⟩:=hrel i v hv
  exact ⟨v',by simpa using a,b.mono (addP_le s.next_none _)⟩
 ·intro q b k hq hk he
  have:=(s.dom q k hk).2.2.2
  simp at he
  omega
def Hp.fill(h:Hp)(n:Nat)(b:Blk) :Hp:={h with new:=fun r=>bif r==n then some b else h.new r,hole:=fun r=>bif r==n then false else h.hole r}
theorem fill_new(h:Hp)(n:Nat)(b:Blk)(q:Nat) :(h.fill n b).new q=if q=n then some b else h.new q:=by
 unfold Hp.fill
 by_cases e:q=n
 ·subst e; simp
 ·have:(q==n)=false:=by simpa using e
  simp [e,this]
theorem fill_hole(h:Hp)(n:Nat)(b:Blk)(q:Nat) :(h.fill n b).hole q=if q=n then false else h.hole q:=by
 unfold Hp.fill
 by_cases e:q=n
 ·subst e; simp
 ·have:(q==n)=false:=by simpa using e
  simp [e,this]
theorem addP_le'{n:Nat}(hn:ρ n=none)(l:Loc) :LeP ρ (addP ρ n l):=fun r k hr=>by
 unfold addP
 split
 ·rename_i e
  subst e
  rw [hn] at hr
  cases hr
 ·exact hr
theorem Sim.freshAt(s:Sim B W ρ h w){n:Nat}(hn:h.hole n=true)(cs:List Value)(sz:Nat)(c:Array Value)(t:TypeId)(hlen:cs.length≤c.size)
  (hrel:∀(i:Nat) (v:Value),cs[i]? =some v→∃v',c[i]? =some v'∧VRel B ρ v v'):
  Sim B W (addP ρ n ⟨w.heap.size,0,c.size,sz⟩) (h.fill n ⟨cs,sz,true,[]⟩) (w.alloc (.cells c t)):=by
 have s':=s.alloc (.cells c t)
 have hw:B≤w.heap.size:=Nat.le_trans s.low s.below.size
 obtain ⟨n1,n2,n3⟩:=s.free n hn
 have hnn:h.new n=none:=by
  cases hb:h.new n with
  | none=>rfl
  | some b=>obtain ⟨l,hl,_⟩:=s.new n b hb; rw [n3] at hl; cases hl
 have hle:=addP_le' (ρ:=ρ) n3 ⟨w.heap.size,0,c.size,sz⟩
 have hat:(w.alloc (.cells c t)).heap[w.heap.size]? =some (.cells c t (0,0)):=by show (w.heap.push _)[w.heap.size]? =_; simp
 have hsz:(w.alloc (.cells c t)).heap.size=w.heap.size+1:=by show (w.heap.push _).size=_; simp
 have hblk:∀{r:Nat} {l:Loc},ρ r=some l→l.block ≠w.heap.size:=fun {r l} hr e=>by
  have:=(s.dom r l hr).2.2.2
  omega
 refine ⟨s'.below,s'.low,s'.base,s'.first, ?_, ?_, ?_, ?_, ?_, ?_, ?_⟩
 ·intro a v hav
  obtain ⟨h1,u,h2,h3⟩:=s'.old a v hav
  exact ⟨h1,u,h2,h3.mono hle⟩
 ·intro r k hr
  unfold addP at hr
  split at hr
  ·rename_i e
   subst e
   cases hr
   exact ⟨n1,n2,hw,by show w.heap.size<_; omega⟩
  ·exact s'.dom r k hr
 ·intro r b hr
  rw [fill_new] at hr
  split at hr
  ·rename_i e
   subst e
   cases hr
   refine ⟨_,addP_self _ _,c,t,hat,rfl,by simpa using hlen,rfl, ?_⟩
   intro i v hv
   obtain ⟨v',a,b⟩:=hrel i v hv
   exact ⟨v',by simpa using a,b.mono hle⟩
  ·rename_i e
   obtain ⟨k,hk,hb⟩:=s'.new r b hr
   exact ⟨k,by rw [addP_other _ e]; exact hk,hb.mono hle⟩
 ·intro r es hr
  have hr':h.maps r=some es:=hr
  obtain ⟨k,hk,hb⟩:=s'.maps r es hr'
  have e:r ≠n:=fun e=>by rw [e,n3] at hk; cases hk
  exact ⟨k,by rw [addP_other _ e]; exact hk,hb.mono hle⟩
 ·intro r1 b1 r2 b2 l1 l2 h1 h2 hne hl1 hl2 he
  rw [fill_new] at h1 h2
  split at h1
  ·rename_i e1
   subst e1
   rw [addP_self] at hl1
   cases hl1
   rw [addP_other _ (Ne.symm hne)] at hl2
   exact absurd he.symm (hblk hl2)
  ·rename_i e1
   split at h2
   ·rename_i e2
    subst e2
    rw [addP_self] at hl2
    cases hl2
    rw [addP_other _ hne] at hl1
    exact absurd he (hblk hl1)
   ·rename_i e2
    rw [addP_other _ e1] at hl1
    rw [addP_other _ e2] at hl2
    exact s.apart r1 b1 r2 b2 l1 l2 h1 h2 hne hl1 hl2 he
 ·intro r1 e1 r2 e2 l1 l2 h1 h2 hne hl1 hl2
  have g:∀r es,h.maps r=some es→r ≠n:=fun r es hm e=>by
   obtain ⟨k,hk,_⟩:=s.maps r es hm
   rw [e,n3] at hk
   cases hk
  rw [addP_other _ (g r1 e1 h1)] at hl1
  rw [addP_other _ (g r2 e2 h2)] at hl2
  exact s.mapsApart r1 e1 r2 e2 l1 l2 h1 h2 hne hl1 hl2
 ·intro r hr
  rw [fill_hole] at hr
  split at hr
  ·cases hr
  ·rename_i e
   obtain ⟨a,b,c⟩:=s.free r hr
   exact ⟨a,b,by rw [addP_other _ e]; exact c⟩
/-! A store. -/
theorem setCells_row(b:Nat)(t:TypeId)(fz:Nat×Nat) :∀(vs:List Value) (o:Nat) (cur:Array Value) (w:World),w.heap[b]? =some (.cells cur t fz)→o+vs.length≤cur.size→
  w.setCells b o vs=w.setRow b (cur.toList.take o++vs++cur.toList.drop (o+vs.length)).toArray
 | [],o,cur,w,hg,_=>by
  simp only [World.setCells,List.append_nil,List.length_nil,Nat.add_zero,List.take_append_drop,Array.toArray_toList]
  rw [setRow_self w b cur t fz hg]
 | v::rest,o,cur,w,hg,hl=>by
  have ih:=setCells_row b t fz rest (o+1) (cur.setIfInBounds o v) (w.setRow b (cur.setIfInBounds o v)) (setRow_heap w b cur _ t _ hg) (by simp at hl ⊢; omega)
  simp only [World.setCells]
  rw [setCell_eq_setRow w b o cur t fz v hg,ih,setRow_setRow]
  congr 2
  have e:=list_seg_step cur.toList o v rest (by simp at hl ⊢; omega)
  simpa [Array.toList_setIfInBounds,Nat.add_assoc] using e
theorem Below.setRow'{B g:Nat}{w:World}(hg:B≤g)(cs:Array Value) :Below B w (w.setRow g cs):=
 ⟨rfl,rfl,rfl,by simp [World.setRow],fun k hk=>setRow_other w g k cs (by omega)⟩
theorem splice_get(cs:List Value)(o:Nat)(vs:List Value)(hl:o+vs.length≤cs.length)(i:Nat) :(splice cs o vs)[i]? =if o≤i∧i<o+vs.length then vs[i - o]? else cs[i]? :=by
 unfold splice
 rw [List.append_assoc,List.getElem?_append]
 simp only [List.length_take]
 have hm:min o cs.length=o:=by omega
 rw [hm]
 split
 ·rename_i h1
  rw [if_neg (by omega),List.getElem?_take,if_pos h1]
 ·rename_i h1
  rw [List.getElem?_append]
  split
  ·rename_i h2
   rw [if_pos (by omega)]
  ·rename_i h2
   rw [if_neg (by omega),List.getElem?_drop]
   congr 1
   omega
theorem write_new(h:Hp)(r:Nat)(b:Blk)(o:Nat)(vs:List Value)(q:Nat) :(h.write r b o vs).new q=if q=r then some {b with cells:=splice b.cells o vs,par:=[]} else if q∈b.par then none else h.new q:=by
 unfold Hp.write
 by_cases e:q=r
 ·subst e; simp
 ·simp only [beq_iff_eq,e,if_false]
  have:(q==r)=false:=by simpa using e
  rw [this,cond_false]
  by_cases m:q∈b.par
  ·simp [m]
  ·simp [m]
theorem Sim.write(s:Sim B W ρ h w){r:Nat}{b:Blk}{l:Loc}(hb:h.new r=some b)(hl:ρ r=some l)(hrw:b.rw=true)(c:Array Value)(t:TypeId)(hg:w.heap[l.block]? =some (.cells c t (0,0)))
  (o:Nat) (vs vs':List Value) (ho:o+vs.length≤b.cells.length) (hv:VRels B ρ vs vs'):
  Sim B W ρ (h.write r b o vs) (w.setCells l.block (l.base+o) vs'):=by
 have hlen:=hv.length
 obtain ⟨l',hl',c',t',g1,g2,g3,g4,g5⟩:=s.new r b hb
 rw [hl] at hl'; cases hl'
 rw [hg] at g1; cases g1
 have hfit:l.base+o+vs'.length≤c.size:=by omega
 have hrow:=setCells_row l.block t (0,0) vs' (l.base+o) c w hg hfit
 rw [hrow]
 have hnew:=setRow_heap w l.block c (c.toList.take (l.base+o)++vs'++c.toList.drop (l.base+o+vs'.length)).toArray t (0,0) hg
 have hB:=(s.dom r l hl).2.2.1
 have below:=s.below.trans (Below.setRow' hB (c.toList.take (l.base+o)++vs'++c.toList.drop (l.base+o+vs'.length)).toArray)
 have hsize:(w.setRow l.block (c.toList.take (l.base+o)++vs'++c.toList.drop (l.base+o+vs'.length)).toArray).heap.size=w.heap.size:=by simp [World.setRow]
 refine ⟨below,s.low,s.base,s.first, ?_, ?_, ?_, ?_, ?_,s.mapsApart,s.free⟩
 ·intro a v hav
  obtain ⟨h1,u,h2,h3⟩:=s.old a v hav
  refine ⟨h1,u, ?_,h3⟩
  rw [(Below.setRow' (w:=w) hB _).cell h1]
  exact h2
 ·intro q k hq
  obtain ⟨x,y,z,u⟩:=s.dom q k hq
  exact ⟨x,y,z,by rw [hsize]; exact u⟩
 ·intro q b' hq
  rw [write_new] at hq
  split at hq
  ·rename_i e
   subst e
   cases hq
   refine ⟨l,hl,_,t,hnew, ?_, ?_,g4, ?_⟩
   ·simp
    omega
   ·have:(splice b.cells o vs).length=b.cells.length:=by unfold splice; simp; omega
    rw [this]
    exact g3
   ·intro i v hiv
    rw [splice_get _ _ _ ho] at hiv
    have hc:=splice_get c.toList (l.base+o) vs' (by simpa using hfit) (l.base+i)
    unfold splice at hc
    rw [List.getElem?_toArray,hc]
    split at hiv
    ·rename_i hi
     rw [if_pos (by omega)]
     obtain ⟨v',h1,h2⟩:=hv.get hiv
     refine ⟨v', ?_,h2⟩
     rw [←h1]
     congr 1
     omega
    ·rename_i hi
     rw [if_neg (by omega)]
     obtain ⟨v',h1,h2⟩:=g5 i v hiv
     exact ⟨v',by simpa using h1,h2⟩
  ·rename_i e
   split at hq
   ·cases hq
   ·rename_i np
    obtain ⟨k,hk,c2,t2,k1,krest⟩:=s.new q b' hq
    refine ⟨k,hk,c2,t2, ?_,krest⟩
    rw [setRow_other _ _ _ _ ?_]
    ·exact k1
    ·intro eq
     rcases s.apart q b' r b k l hq hb e hk hl eq with ⟨x,_,_⟩ | ⟨_,y,_⟩
     ·exact np x
     ·rw [hrw] at y
      cases y
 ·intro q es hq
  obtain ⟨k,hk,c2,t2,k1,krest⟩:=s.maps q es hq
  refine ⟨k,hk,c2,t2, ?_,krest⟩
  rw [setRow_other _ _ _ _ ?_]
  ·exact k1
  ·intro eq
   rw [eq,hg] at k1
   cases k1
 ·have key:∀q b' k,h.new q=some b'→q ≠r→q∉b.par→ρ q=some k→k.block=l.block→False:=by
   intro q b' k hq e np hk eq
   rcases s.apart q b' r b k l hq hb e hk hl eq with ⟨x,_,_⟩ | ⟨_,y,_⟩
   ·exact np x
   ·rw [hrw] at y
    cases y
  intro r1 b1 r2 b2 l1 l2 h1 h2 hne hl1 hl2 he
  rw [write_new] at h1 h2
  split at h1
  ·rename_i e1
   split at h2
   ·rename_i e2; omega
   ·rename_i e2
    split at h2
    ·cases h2
    ·rename_i np
     subst e1
     rw [hl] at hl1; cases hl1
     exact (key r2 b2 l2 h2 e2 np hl2 he.symm).elim
  ·rename_i e1
   split at h1
   ·cases h1
   ·rename_i np1
    split at h2
    ·rename_i e2
     subst e2
     rw [hl] at hl2; cases hl2
     exact (key r1 b1 l1 h1 e1 np1 hl1 he).elim
    ·rename_i e2
     split at h2
     ·cases h2
     ·exact s.apart r1 b1 r2 b2 l1 l2 h1 h2 hne hl1 hl2 he
end
end Go.Proofs.Ytpfploolkmcalaa.AM
end
