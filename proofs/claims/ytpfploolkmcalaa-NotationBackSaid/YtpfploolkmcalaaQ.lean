/- The equations of the functions, as the small evaluator gives them (printed by vgen.py). Conditions: none. -/
import Derived.Test.YtpfploolkmcalaaVmD
import Derived.Test.YtpfploolkmcalaaProg
set_option linter.all false
set_option linter.all false
namespace Go.Proofs.Ytpfploolkmcalaa.VM
set_option maxRecDepth 100000
open Go AM
def normTab :List (Nat×Nat×List (Nat×Norm)):=[
 (66,0,[(2,{slots:=[(0,0),(3,0)],cells:=[]})]),
 (105,0,[(4,{slots:=[(0,0),(2,0),(23,0),(24,0)],cells:=[]})]),
 (28,0,[(6,{slots:=[(0,0),(5,5),(6,0),(7,0)],cells:=[]}),(21,{slots:=[(0,0),(5,0),(6,0),(7,0),(8,0)],cells:=[]}),(26,{slots:=[(0,0),(5,0),(7,0),(8,0),(9,0)],cells:=[]}),(28,{slots:=[(0,0),(5,0)],cells:=[]})]),
 (68,0,[(2,{slots:=[(0,0),(1,0),(7,0),(8,0)],cells:=[]})]),
 (30,0,[(2,{slots:=[(0,0),(3,3)],cells:=[]})]),
 (74,0,[(5,{slots:=[(0,0),(1,0),(4,3),(5,0)],cells:=[]})]),
 (77,0,[(5,{slots:=[(0,0),(1,0),(4,3),(5,0)],cells:=[]})]),
 (88,1,[(2,{slots:=[(0,0),(1,0),(2,0),(6,0),(7,0)],cells:=[(7,4,1)]})]),
 (88,0,[(2,{slots:=[(0,0),(1,0),(2,0),(6,0),(7,0)],cells:=[(7,4,1)]})]),
 (114,0,[(2,{slots:=[(0,0),(1,0),(7,0),(8,0)],cells:=[]})]),
 (115,0,[(2,{slots:=[(0,0),(1,0),(7,0),(8,0)],cells:=[]})]),
 (43,0,[(14,{slots:=[(1,0),(2,0),(5,0),(6,0)],cells:=[]}),(18,{slots:=[(1,0),(7,0),(83,0),(84,0),(85,0)],cells:=[]})]),
 (24,0,[(3,{slots:=[(1,0),(3,0),(19,0),(20,0),(21,0)],cells:=[]}),(8,{slots:=[(3,0),(55,0),(56,0),(57,0)],cells:=[]})]),
 (10,0,[(6,{slots:=[(2,0),(8,0),(26,0),(27,0),(28,0)],cells:=[(2,0,6),(2,1,9)]}),(14,{slots:=[(2,0),(8,0),(9,0),(11,0),(12,0),(26,0),(27,0),(28,0)],cells:=[]})]),
 (116,0,[(1,{slots:=[(0,3),(2,0),(3,0)],cells:=[]})]),
 (103,0,[(5,{slots:=[(0,0),(3,3),(4,0)],cells:=[]})]),
 (55,0,[(2,{slots:=[(0,0),(2,0),(10,0),(11,0),(12,0)],cells:=[]})]),
 (58,0,[(2,{slots:=[(0,0),(2,0),(10,0),(11,0),(12,0)],cells:=[]})]),
 (25,0,[(6,{slots:=[(1,0),(5,0),(18,0),(19,0),(20,0)],cells:=[(5,0,5)]}),(18,{slots:=[(5,0),(53,0),(54,0),(55,0)],cells:=[]})]),
 (61,0,[(4,{slots:=[(0,0),(1,0),(12,0),(13,0)],cells:=[]})]),
 (59,0,[(4,{slots:=[(1,0),(2,0),(15,0),(16,0),(17,0)],cells:=[]})]),
 (47,0,[(4,{slots:=[(0,0),(1,0),(12,0),(13,0)],cells:=[]})]),
 (48,0,[(4,{slots:=[(1,0),(2,0),(15,0),(16,0),(17,0)],cells:=[]})]),
 (62,0,[(4,{slots:=[(1,0),(2,0),(15,0),(16,0),(17,0)],cells:=[]})]),
 (16,0,[(4,{slots:=[(1,0),(2,0),(30,0),(31,0),(32,0)],cells:=[]}),(10,{slots:=[(1,0),(41,0),(42,0),(43,0)],cells:=[]})]),
 (27,0,[(2,{slots:=[(1,0),(10,0),(11,0),(12,0)],cells:=[]}),(8,{slots:=[(1,0),(32,0),(33,0),(34,0)],cells:=[]}),(13,{slots:=[(1,0),(32,0),(33,0),(34,0),(55,0),(56,0),(57,0)],cells:=[]})]),
 (8,0,[(9,{slots:=[(2,0),(5,0)],cells:=[]})])]
def callTab :List (Nat×Nat×List (Nat×Nat×CallH)):=[
 (10,0,[(10,1,{w:=0,own:=[],pre:=[],out:=(.one (.t (.one .bool))),blks:=[(0, .var [.t (.list 3), .t .bool])]}),(12,3,{w:=0,own:=[],pre:=[],out:=(.one (.t (.agg [.str, .list 1, .str, .int .i64]))),blks:=[(0, .var [.t (.list 3), .t .bool])]}),(13,3,{w:=0,own:=[],pre:=[],out:=(.one (.t (.agg [.str, .list 1, .int .i64, .int .i64, .str, .list 1, .list 5]))),blks:=[(0, .var [.t (.list 3), .t .bool])]}),(14,1,{w:=0,own:=[],pre:=[],out:=(.one (.t (.one .bool))),blks:=[(0, .var [.t (.list 3), .t .bool])]})]),
 (12,0,[(5,1,{w:=0,own:=[],pre:=[],out:=(.one (.t (.agg [.int .i64, .int .i64, .str, .list 1, .list 5]))),blks:=[(0, .var [.t (.list 3), .t .bool])]}),(6,1,{w:=0,own:=[],pre:=[],out:=(.one (.t (.one .bool))),blks:=[(0, .var [.t (.list 3), .t .bool])]})]),
 (22,0,[(4,2,{w:=0,own:=[],pre:=[(0,0,3)],out:=(.tup []),blks:=[(0, .var [.buf 500]),(500, .arr 3)]})]),
 (25,0,[(8,1,{w:=0,own:=[],pre:=[(0,0,3)],out:=(.tup []),blks:=[(0, .var [.buf 500]),(500, .arr 3)],alt:=[((.tup []),[(0, .var [.buf 1]),(1, .arr 3)])]}),(9,1,{w:=0,own:=[],pre:=[],out:=(.tup []),blks:=[(0, .var [.buf 500]),(500, .arr 3)]}),(10,3,{w:=0,own:=[],pre:=[],out:=(.tup []),blks:=[(0, .var [.buf 500]),(500, .arr 3)]}),(11,5,{w:=0,own:=[],pre:=[],out:=(.tup []),blks:=[(0, .var [.buf 500]),(500, .arr 3)]}),(12,1,{w:=0,own:=[],pre:=[],out:=(.tup []),blks:=[(0, .var [.buf 500]),(500, .arr 3)]}),(13,3,{w:=0,own:=[],pre:=[],out:=(.tup []),blks:=[(0, .var [.buf 500]),(500, .arr 3)]}),(15,3,{w:=0,own:=[],pre:=[],out:=(.tup []),blks:=[(0, .var [.buf 500]),(500, .arr 3)]}),(20,1,{w:=0,own:=[],pre:=[],out:=(.tup []),blks:=[(0, .var [.buf 500]),(500, .arr 3)],alt:=[((.tup []),[(0, .var [.buf 1]),(1, .arr 3)])]}),(21,3,{w:=0,own:=[],pre:=[],out:=(.tup []),blks:=[(0, .var [.buf 500]),(500, .arr 3)]}),(22,5,{w:=0,own:=[],pre:=[],out:=(.tup []),blks:=[(0, .var [.buf 500]),(500, .arr 3)]}),(23,1,{w:=0,own:=[],pre:=[],out:=(.tup []),blks:=[(0, .var [.buf 500]),(500, .arr 3)]}),(24,3,{w:=0,own:=[],pre:=[],out:=(.tup []),blks:=[(0, .var [.buf 500]),(500, .arr 3)]})]),
 (31,0,[(1,3,{w:=0,own:=[],pre:=[],out:=(.one (.t (.agg [.int .i64, .str, .int .i64]))),blks:=[(0, .var [.t (.list 3), .t .bool])]})]),
 (32,0,[(1,1,{w:=0,own:=[],pre:=[],out:=(.tup []),blks:=[(0, .var [.t (.list 3), .t .bool])]}),(2,1,{w:=0,own:=[],pre:=[],out:=(.one (.t (.one .str))),blks:=[(0, .var [.t (.list 3), .t .bool])]}),(3,3,{w:=0,own:=[],pre:=[],out:=(.one (.t (.one (.list 1)))),blks:=[(0, .var [.t (.list 3), .t .bool])]}),(4,1,{w:=0,own:=[],pre:=[],out:=(.tup []),blks:=[(0, .var [.t (.list 3), .t .bool])]}),(5,1,{w:=0,own:=[],pre:=[],out:=(.one (.t (.agg [.int .i64, .str, .int .i64]))),blks:=[(0, .var [.t (.list 3), .t .bool])]}),(6,3,{w:=0,own:=[],pre:=[],out:=(.one (.t (.agg [.int .i64, .str, .int .i64]))),blks:=[(0, .var [.t (.list 3), .t .bool])]}),(7,1,{w:=0,own:=[],pre:=[],out:=(.one (.t (.one (.int .i64)))),blks:=[(0, .var [.t (.list 3), .t .bool])]})]),
 (33,0,[(1,1,{w:=0,own:=[],pre:=[],out:=(.one (.t (.one .str))),blks:=[(0, .var [.t (.list 3), .t .bool])]}),(2,3,{w:=0,own:=[],pre:=[],out:=(.one (.t (.one (.list 1)))),blks:=[(0, .var [.t (.list 3), .t .bool])]}),(3,1,{w:=0,own:=[],pre:=[],out:=(.tup []),blks:=[(0, .var [.t (.list 3), .t .bool])]}),(4,1,{w:=0,own:=[],pre:=[],out:=(.one (.t (.agg [.int .i64, .int .i64, .str, .list 1, .list 5]))),blks:=[(0, .var [.t (.list 3), .t .bool])]})]),
 (40,0,[(1,7,{w:=0,own:=[],pre:=[],out:=(.one (.t (.agg [.int .i64, .int .i64, .str, .list 1, .list 5]))),blks:=[(0, .var [.t (.list 3), .t .bool]),(1, .map)]})]),
 (45,0,[(3,1,{w:=0,own:=[],pre:=[],out:=(.tup []),blks:=[(0, .var [.buf 500]),(500, .arr 3)]}),(4,5,{w:=0,own:=[],pre:=[],out:=(.tup []),blks:=[(0, .var [.buf 500]),(500, .arr 3)]}),(5,5,{w:=0,own:=[],pre:=[],out:=(.tup []),blks:=[(0, .var [.buf 500]),(500, .arr 3)]}),(6,5,{w:=0,own:=[],pre:=[],out:=(.tup []),blks:=[(0, .var [.buf 500]),(500, .arr 3)]}),(7,1,{w:=0,own:=[],pre:=[],out:=(.tup []),blks:=[(0, .var [.buf 500]),(500, .arr 3)]}),(9,3,{w:=0,own:=[],pre:=[],out:=(.tup []),blks:=[(0, .var [.buf 500]),(500, .arr 3)]}),(11,3,{w:=0,own:=[],pre:=[],out:=(.tup []),blks:=[(0, .var [.buf 500]),(500, .arr 3)]}),(12,5,{w:=0,own:=[],pre:=[],out:=(.tup []),blks:=[(0, .var [.buf 500]),(500, .arr 3)]}),(14,1,{w:=0,own:=[],pre:=[],out:=(.tup []),blks:=[(0, .var [.buf 500]),(500, .arr 3)]}),(15,5,{w:=0,own:=[],pre:=[],out:=(.tup []),blks:=[(0, .var [.buf 500]),(500, .arr 3)]}),(17,1,{w:=0,own:=[],pre:=[],out:=(.tup []),blks:=[(0, .var [.buf 500]),(500, .arr 3)]}),(18,1,{w:=0,own:=[],pre:=[],out:=(.tup []),blks:=[(0, .var [.buf 500]),(500, .arr 3)]}),(19,3,{w:=0,own:=[],pre:=[],out:=(.tup []),blks:=[(0, .var [.buf 500]),(500, .arr 3)]}),(20,1,{w:=0,own:=[],pre:=[],out:=(.tup []),blks:=[(0, .var [.buf 500]),(500, .arr 3)]}),(21,5,{w:=0,own:=[],pre:=[],out:=(.tup []),blks:=[(0, .var [.buf 500]),(500, .arr 3)]}),(22,1,{w:=0,own:=[],pre:=[],out:=(.tup []),blks:=[(0, .var [.buf 500]),(500, .arr 3)]})]),
 (55,0,[(0,1,{w:=0,own:=[],pre:=[],out:=(.tup []),blks:=[(0, .var [.buf 500]),(500, .arr 3)]}),(5,1,{w:=0,own:=[],pre:=[],out:=(.tup []),blks:=[(0, .var [.buf 500]),(500, .arr 3)]}),(6,2,{w:=0,own:=[],pre:=[],out:=(.tup []),blks:=[(0, .var [.buf 500]),(500, .arr 3)]}),(8,1,{w:=0,own:=[],pre:=[],out:=(.tup []),blks:=[(0, .var [.buf 500]),(500, .arr 3)]})]),
 (58,0,[(0,1,{w:=0,own:=[],pre:=[],out:=(.tup []),blks:=[(0, .var [.buf 500]),(500, .arr 3)]}),(5,1,{w:=0,own:=[],pre:=[],out:=(.tup []),blks:=[(0, .var [.buf 500]),(500, .arr 3)]}),(6,2,{w:=0,own:=[],pre:=[],out:=(.tup []),blks:=[(0, .var [.buf 500]),(500, .arr 3)]}),(8,1,{w:=0,own:=[],pre:=[],out:=(.tup []),blks:=[(0, .var [.buf 500]),(500, .arr 3)]})]),
 (72,0,[(0,2,{w:=0,own:=[],pre:=[],out:=(.one (.t (.one .bool))),blks:=[(0, .var [.t (.list 3), .t .bool])]})]),
 (73,0,[(1,1,{w:=0,own:=[],pre:=[],out:=(.one (.t (.agg [.int .i64, .str, .int .i64]))),blks:=[(0, .var [.t (.list 3), .t .bool])]})]),
 (74,0,[(1,1,{w:=0,own:=[],pre:=[],out:=(.tup []),blks:=[(0, .var [.t (.list 3), .t .bool])]}),(2,1,{w:=0,own:=[],pre:=[],out:=(.one (.t (.one .bool))),blks:=[(0, .var [.t (.list 3), .t .bool])]}),(6,1,{w:=0,own:=[],pre:=[],out:=(.one (.t (.one .bool))),blks:=[(0, .var [.t (.list 3), .t .bool])]}),(7,2,{w:=0,own:=[],pre:=[],out:=(.one (.t (.one (.int .i64)))),blks:=[(0, .var [.t (.list 3), .t .bool])]}),(8,1,{w:=0,own:=[],pre:=[],out:=(.tup []),blks:=[(0, .var [.t (.list 3), .t .bool])]})]),
 (75,0,[(1,1,{w:=0,own:=[],pre:=[],out:=(.one (.t (.agg [.int .i64, .str, .int .i64]))),blks:=[(0, .var [.t (.list 3), .t .bool])]})]),
 (76,0,[(1,3,{w:=0,own:=[],pre:=[],out:=(.one (.t (.agg [.int .i64, .str, .int .i64]))),blks:=[(0, .var [.t (.list 3), .t .bool])]})]),
 (77,0,[(1,1,{w:=0,own:=[],pre:=[],out:=(.tup []),blks:=[(0, .var [.t (.list 3), .t .bool])]}),(2,1,{w:=0,own:=[],pre:=[],out:=(.one (.t (.one .bool))),blks:=[(0, .var [.t (.list 3), .t .bool])]}),(6,1,{w:=0,own:=[],pre:=[],out:=(.one (.t (.one .bool))),blks:=[(0, .var [.t (.list 3), .t .bool])]}),(7,2,{w:=0,own:=[],pre:=[],out:=(.one (.t (.one .str))),blks:=[(0, .var [.t (.list 3), .t .bool])]}),(8,1,{w:=0,own:=[],pre:=[],out:=(.tup []),blks:=[(0, .var [.t (.list 3), .t .bool])]})]),
 (88,0,[(1,1,{w:=0,own:=[],pre:=[],out:=(.one (.t (.agg [.int .i64, .int .i64, .str, .list 1, .list 5]))),blks:=[(0, .var [.t (.list 3), .t .bool])]}),(3,4,{w:=0,own:=[],pre:=[],out:=(.one (.t (.agg [.int .i64, .str, .int .i64]))),blks:=[(0, .var [.t (.list 3), .t .bool])]}),(4,6,{w:=0,own:=[],pre:=[],out:=(.one (.t (.agg [.int .i64, .str, .int .i64]))),blks:=[(0, .var [.t (.list 3), .t .bool])]}),(6,3,{w:=0,own:=[],pre:=[],out:=(.one (.t (.agg [.int .i64, .int .i64, .str, .list 1, .list 5]))),blks:=[(0, .var [.t (.list 3), .t .bool])]})]),
 (88,1,[(1,1,{w:=0,own:=[],pre:=[],out:=(.one (.t (.agg [.int .i64, .int .i64, .str, .list 1, .list 5]))),blks:=[(0, .var [.t (.list 3), .t .bool])]}),(3,4,{w:=0,own:=[],pre:=[],out:=(.one (.t (.agg [.int .i64, .str, .int .i64]))),blks:=[(0, .var [.t (.list 3), .t .bool])]}),(4,6,{w:=0,own:=[],pre:=[],out:=(.one (.t (.agg [.int .i64, .str, .int .i64]))),blks:=[(0, .var [.t (.list 3), .t .bool])]}),(6,3,{w:=0,own:=[],pre:=[],out:=(.one (.t (.agg [.int .i64, .int .i64, .str, .list 1, .list 5]))),blks:=[(0, .var [.t (.list 3), .t .bool])]})]),
 (89,0,[(1,6,{w:=1,own:=[],pre:=[],out:=(.one (.t (.agg [.int .i64, .int .i64, .str, .list 1, .list 5]))),blks:=[(0, .var [.t (.list 3), .t .bool]),(1, .map)]})]),
 (103,0,[(10,1,{w:=0,own:=[2],pre:=[],out:=(.tup []),blks:=[(0, .arr 1)]})]),
 (106,0,[(1,2,{w:=0,own:=[],pre:=[],out:=(.one (.t (.one .bool))),blks:=[(0, .var [.t (.list 3), .t .bool])]})]),
 (109,0,[(1,1,{w:=0,own:=[],pre:=[],out:=(.one (.t (.one .str))),blks:=[(0, .var [.t (.list 3), .t .bool])]}),(2,3,{w:=0,own:=[],pre:=[],out:=(.one (.t (.one (.list 1)))),blks:=[(0, .var [.t (.list 3), .t .bool])]}),(4,1,{w:=0,own:=[],pre:=[],out:=(.one (.t (.one .bool))),blks:=[(0, .var [.t (.list 3), .t .bool])]}),(5,1,{w:=0,own:=[],pre:=[],out:=(.one (.t (.agg [.int .i64, .int .i64, .str, .list 1, .list 5]))),blks:=[(0, .var [.t (.list 3), .t .bool])]}),(6,1,{w:=0,own:=[],pre:=[],out:=(.one (.t (.one .bool))),blks:=[(0, .var [.t (.list 3), .t .bool])]}),(7,1,{w:=0,own:=[],pre:=[],out:=(.one (.t (.agg [.int .i64, .int .i64, .str, .list 1, .list 5]))),blks:=[(0, .var [.t (.list 3), .t .bool])]}),(8,1,{w:=0,own:=[],pre:=[],out:=(.tup []),blks:=[(0, .var [.t (.list 3), .t .bool])]}),(9,1,{w:=0,own:=[],pre:=[],out:=(.one (.t (.one .bool))),blks:=[(0, .var [.t (.list 3), .t .bool])]}),(10,1,{w:=0,own:=[],pre:=[],out:=(.one (.t (.agg [.int .i64, .int .i64, .str, .list 1, .list 5]))),blks:=[(0, .var [.t (.list 3), .t .bool])]}),(11,3,{w:=0,own:=[],pre:=[],out:=(.one (.t (.agg [.int .i64, .str, .int .i64]))),blks:=[(0, .var [.t (.list 3), .t .bool])]}),(12,1,{w:=0,own:=[],pre:=[],out:=(.one (.t (.agg [.int .i64, .str, .int .i64]))),blks:=[(0, .var [.t (.list 3), .t .bool])]})]),
 (118,0,[(1,1,{w:=0,own:=[],pre:=[],out:=(.tup []),blks:=[(0, .var [.t (.list 3), .t .bool])]}),(2,1,{w:=0,own:=[],pre:=[],out:=(.one (.t (.one .str))),blks:=[(0, .var [.t (.list 3), .t .bool])]}),(3,1,{w:=0,own:=[],pre:=[],out:=(.tup []),blks:=[(0, .var [.t (.list 3), .t .bool])]}),(4,1,{w:=0,own:=[],pre:=[],out:=(.one (.t (.agg [.int .i64, .int .i64, .str, .list 1, .list 5]))),blks:=[(0, .var [.t (.list 3), .t .bool])]}),(5,1,{w:=0,own:=[],pre:=[],out:=(.tup []),blks:=[(0, .var [.t (.list 3), .t .bool])]})])]
def unrollTab :List (Nat×Nat×Nat):=[]
def ownTab :List (Nat×Nat×List Nat):=[]
def eqtTab :List (Nat×List Value):=[(103,[.int .i64 0, .string ByteArray.empty, .int .i64 0])]
def ovSet :List (Nat×OvF):=[(46,ovJoin 96),(104,ovIdx)]
def hint :Hint:=mkHint eqtTab normTab callTab ownTab unrollTab ovSet
noncomputable abbrev gE(f w nt:Nat)(fn:Func)(T:Tab)(args:List V)(st:St) :Option Res:=codeT Try.prog hint f w nt T [] (resKV Try.prog fn (hint.own f w)) (nrm hint f w (bodyOf fn) (envV args 0) st).1 (nrm hint f w (bodyOf fn) (envV args 0) st).2 (bodyOf fn)
noncomputable abbrev gP(f w nt:Nat)(fn:Func)(T:Tab)(p:List Stp)(e:Env)(st:St) :Option Res:=codeT Try.prog hint f w nt T p (ctxT Try.prog hint f w nt T [] (List.reverse p) (bodyOf fn) (resKV Try.prog fn (hint.own f w))) e st (nav (List.reverse p) (bodyOf fn))
noncomputable def vr(f w:Nat)(args:List V)(st:St) :Option (V×St):=vrun Try.prog hint f w args st
def D_isi{R:Type}(t:T)(K:Int→ByteArray→Int→Option R) :Option R:=asA t fun l=>consT l fun v0 l=>asI .i64 v0 fun x0=>consT l fun v1 l=>asS v1 fun x1=>consT l fun v2 l=>asI .i64 v2 fun x2=>endT l <| K x0 x1 x2
theorem D_isi_at{R:Type}(x0:Int)(x1:ByteArray)(x2:Int)(K:Int→ByteArray→Int→Option R) :D_isi (R:=R) (.agg [.int .i64 x0, .str x1, .int .i64 x2]) K=K x0 x1 x2:=by
 unfold D_isi
 rw [asA_agg,consT_cons,asI_int,consT_cons,asS_str,consT_cons,asI_int,endT_nil]
def W_l3b{R:Type}(t:Blk)(K:Bool→List T→Bool→Option R) :Option R:=asVar t fun l=>consV l fun w0 l=>asT w0 fun v0=>asL 3 v0 fun z0 x0=>consV l fun w1 l=>asT w1 fun v1=>asB v1 fun x1=>endV l <| K z0 x0 x1
theorem W_l3b_at{R:Type}(z0:Bool)(x0:List T)(x1:Bool)(K:Bool→List T→Bool→Option R) :W_l3b (R:=R) (.var [.t (.list 3 z0 x0), .t (.bool x1)]) K=K z0 x0 x1:=by
 unfold W_l3b
 rw [asVar_var,consV_cons,asT_t,asL_list,consV_cons,asT_t,asB_bool,endV_nil]
def D_sl1si{R:Type}(t:T)(K:ByteArray→Bool→List T→ByteArray→Int→Option R) :Option R:=asA t fun l=>consT l fun v0 l=>asS v0 fun x0=>consT l fun v1 l=>asL 1 v1 fun z1 x1=>consT l fun v2 l=>asS v2 fun x2=>consT l fun v3 l=>asI .i64 v3 fun x3=>endT l <| K x0 z1 x1 x2 x3
theorem D_sl1si_at{R:Type}(x0:ByteArray)(z1:Bool)(x1:List T)(x2:ByteArray)(x3:Int)(K:ByteArray→Bool→List T→ByteArray→Int→Option R) :D_sl1si (R:=R) (.agg [.str x0, .list 1 z1 x1, .str x2, .int .i64 x3]) K=K x0 z1 x1 x2 x3:=by
 unfold D_sl1si
 rw [asA_agg,consT_cons,asS_str,consT_cons,asL_list,consT_cons,asS_str,consT_cons,asI_int,endT_nil]
def D_iisl1l5{R:Type}(t:T)(K:Int→Int→ByteArray→Bool→List T→Bool→List T→Option R) :Option R:=asA t fun l=>consT l fun v0 l=>asI .i64 v0 fun x0=>consT l fun v1 l=>asI .i64 v1 fun x1=>consT l fun v2 l=>asS v2 fun x2=>consT l fun v3 l=>asL 1 v3 fun z3 x3=>consT l fun v4 l=>asL 5 v4 fun z4 x4=>endT l <| K x0 x1 x2 z3 x3 z4 x4
theorem D_iisl1l5_at{R:Type}(x0:Int)(x1:Int)(x2:ByteArray)(z3:Bool)(x3:List T)(z4:Bool)(x4:List T)(K:Int→Int→ByteArray→Bool→List T→Bool→List T→Option R) :D_iisl1l5 (R:=R) (.agg [.int .i64 x0, .int .i64 x1, .str x2, .list 1 z3 x3, .list 5 z4 x4]) K=K x0 x1 x2 z3 x3 z4 x4:=by
 unfold D_iisl1l5
 rw [asA_agg,consT_cons,asI_int,consT_cons,asI_int,consT_cons,asS_str,consT_cons,asL_list,consT_cons,asL_list,endT_nil]
def D_sl1iisl1l5{R:Type}(t:T)(K:ByteArray→Bool→List T→Int→Int→ByteArray→Bool→List T→Bool→List T→Option R) :Option R:=asA t fun l=>consT l fun v0 l=>asS v0 fun x0=>consT l fun v1 l=>asL 1 v1 fun z1 x1=>consT l fun v2 l=>asI .i64 v2 fun x2=>consT l fun v3 l=>asI .i64 v3 fun x3=>consT l fun v4 l=>asS v4 fun x4=>consT l fun v5 l=>asL 1 v5 fun z5 x5=>consT l fun v6 l=>asL 5 v6 fun z6 x6=>endT l <| K x0 z1 x1 x2 x3 x4 z5 x5 z6 x6
theorem D_sl1iisl1l5_at{R:Type}(x0:ByteArray)(z1:Bool)(x1:List T)(x2:Int)(x3:Int)(x4:ByteArray)(z5:Bool)(x5:List T)(z6:Bool)(x6:List T)(K:ByteArray→Bool→List T→Int→Int→ByteArray→Bool→List T→Bool→List T→Option R) :D_sl1iisl1l5 (R:=R) (.agg [.str x0, .list 1 z1 x1, .int .i64 x2, .int .i64 x3, .str x4, .list 1 z5 x5, .list 5 z6 x6]) K=K x0 z1 x1 x2 x3 x4 z5 x5 z6 x6:=by
 unfold D_sl1iisl1l5
 rw [asA_agg,consT_cons,asS_str,consT_cons,asL_list,consT_cons,asI_int,consT_cons,asI_int,consT_cons,asS_str,consT_cons,asL_list,consT_cons,asL_list,endT_nil]
abbrev YL66_2 :=ByteArray→Int→Option Res
def PaL66_2 :List Stp:=[.blk, .fst, .snd, .snd]
def Ta66(KL66_2:Env→St→Option Res) :Tab:=[(PaL66_2,KL66_2)]
def WL66_2(k:Env→St→Option Res)(s0:ByteArray)(n3:Int) :Option Res:=k [(0, .t (.str s0)),(3, .t (.int .i64 n3))] ⟨[],[]⟩
noncomputable def VL66_2 :Env→St→Option Res:=fun e st=>atV Try.prog hint 66 0 Try.f66 25 (List.reverse PaL66_2) e st
noncomputable def L66_2(s0:ByteArray)(n3:Int) :Option Res:=WL66_2 VL66_2 s0 n3
abbrev YL105_4 :=ByteArray→Int→Int→Int→Option Res
def PaL105_4 :List Stp:=[.blk, .snd, .fst, .snd, .snd]
def Ta105(KL105_4:Env→St→Option Res) :Tab:=[(PaL105_4,KL105_4)]
def WL105_4(k:Env→St→Option Res)(s0:ByteArray)(n2 A B:Int) :Option Res:=k [(0, .t (.str s0)),(2, .t (.int .i64 n2)),(23, .t (.int .i64 A)),(24, .t (.int .i64 B))] ⟨[],[]⟩
noncomputable def VL105_4 :Env→St→Option Res:=fun e st=>atV Try.prog hint 105 0 Try.f105 42 (List.reverse PaL105_4) e st
noncomputable def L105_4(s0:ByteArray)(n2 A B:Int) :Option Res:=WL105_4 VL105_4 s0 n2 A B
abbrev YL28_6 :=ByteArray→Bool→Int→Bool→(List T)→Option Res
abbrev YJ28_28 :=ByteArray→Bool→(List T)→Option Res
abbrev YJ28_21 :=ByteArray→Bool→Int→Int→Bool→(List T)→Option Res
abbrev YJ28_26 :=ByteArray→Int→Int→Bool→(List T)→Int→ByteArray→Int→Option Res
def PaL28_6 :List Stp:=[.blk, .fst, .snd, .snd, .snd, .snd, .snd, .blk, .snd]
def PaJ28_28 :List Stp:=[.snd, .snd, .snd, .snd, .snd, .snd, .blk, .snd]
def PaJ28_21 :List Stp:=[.snd, .snd, .blk, .snd, .lp, .blk, .fst, .snd, .snd, .snd, .snd, .snd, .blk, .snd]
def PaJ28_26 :List Stp:=[.snd, .snd, .snd, .snd, .snd, .blk, .snd, .lp, .blk, .fst, .snd, .snd, .snd, .snd, .snd, .blk, .snd]
def Ta28(KL28_6 KJ28_28 KJ28_21 KJ28_26:Env→St→Option Res) :Tab:=[(PaL28_6,KL28_6),(PaJ28_28,KJ28_28),(PaJ28_21,KJ28_21),(PaJ28_26,KJ28_26)]
def WL28_6(k:Env→St→Option Res)(s0:ByteArray)(ends6:Bool)(at7:Int)(A:Bool)(B:List T) :Option Res:=k [(0, .t (.str s0)),(5, .buf 8),(6, .t (.bool ends6)),(7, .t (.int .i64 at7))] ⟨[(8, .arr true 3 A B)],[]⟩
noncomputable def VL28_6 :Env→St→Option Res:=fun e st=>atV Try.prog hint 28 0 Try.f28 82 (List.reverse PaL28_6) e st
noncomputable def L28_6(s0:ByteArray)(ends6:Bool)(at7:Int)(A:Bool)(B:List T) :Option Res:=WL28_6 VL28_6 s0 ends6 at7 A B
def WJ28_28(k:Env→St→Option Res)(s0:ByteArray)(A:Bool)(B:List T) :Option Res:=k [(0, .t (.str s0)),(5, .buf 8)] ⟨[(8, .arr true 3 A B)],[]⟩
noncomputable def VJ28_28 :Env→St→Option Res:=fun e st=>atV Try.prog hint 28 0 Try.f28 82 (List.reverse PaJ28_28) e st
noncomputable def J28_28(s0:ByteArray)(A:Bool)(B:List T) :Option Res:=WJ28_28 VJ28_28 s0 A B
def WJ28_21(k:Env→St→Option Res)(s0:ByteArray)(ends6:Bool)(at7 n8:Int)(A:Bool)(B:List T) :Option Res:=k [(0, .t (.str s0)),(5, .buf 8),(6, .t (.bool ends6)),(7, .t (.int .i64 at7)),(8, .t (.int .i64 n8))] ⟨[(8, .arr true 3 A B)],[]⟩
noncomputable def VJ28_21 :Env→St→Option Res:=fun e st=>atV Try.prog hint 28 0 Try.f28 82 (List.reverse PaJ28_21) e st
noncomputable def J28_21(s0:ByteArray)(ends6:Bool)(at7 n8:Int)(A:Bool)(B:List T) :Option Res:=WJ28_21 VJ28_21 s0 ends6 at7 n8 A B
def WJ28_26(k:Env→St→Option Res)(s0:ByteArray)(at7 n8:Int)(A:Bool)(B:List T)(C:Int)(D:ByteArray)(E:Int) :Option Res:=k [(0, .t (.str s0)),(5, .buf 8),(7, .t (.int .i64 at7)),(8, .t (.int .i64 n8)),(9, .ptr 9 0 0)] ⟨[(8, .arr true 3 A B),(9, .var [.t (.int .i64 C), .t (.str D), .t (.int .i64 E)])],[]⟩
noncomputable def VJ28_26 :Env→St→Option Res:=fun e st=>atV Try.prog hint 28 0 Try.f28 82 (List.reverse PaJ28_26) e st
noncomputable def J28_26(s0:ByteArray)(at7 n8:Int)(A:Bool)(B:List T)(C:Int)(D:ByteArray)(E:Int) :Option Res:=WJ28_26 VJ28_26 s0 at7 n8 A B C D E
abbrev YL68_2 :=Bool→(List T)→Int→Int→Option Res
def PaL68_2 :List Stp:=[.blk, .snd, .fst, .snd]
def Ta68(KL68_2:Env→St→Option Res) :Tab:=[(PaL68_2,KL68_2)]
def WL68_2(k:Env→St→Option Res)(s0z:Bool)(s0:List T)(A B:Int) :Option Res:=k [(0, .t (.list 3 s0z s0)),(1, .fn 69 [] []),(7, .t (.int .i64 A)),(8, .t (.int .i64 B))] ⟨[],[]⟩
noncomputable def VL68_2 :Env→St→Option Res:=fun e st=>atV Try.prog hint 68 0 Try.f68 19 (List.reverse PaL68_2) e st
noncomputable def L68_2(s0z:Bool)(s0:List T)(A B:Int) :Option Res:=WL68_2 VL68_2 s0z s0 A B
abbrev YL30_2 :=Bool→(List T)→Bool→(List T)→Option Res
def PaL30_2 :List Stp:=[.blk, .fst, .snd, .snd]
def Ta30(KL30_2:Env→St→Option Res) :Tab:=[(PaL30_2,KL30_2)]
def WL30_2(k:Env→St→Option Res)(l0z:Bool)(l0:List T)(A:Bool)(B:List T) :Option Res:=k [(0, .t (.list 3 l0z l0)),(3, .buf 8)] ⟨[(8, .arr true 1 A B)],[]⟩
noncomputable def VL30_2 :Env→St→Option Res:=fun e st=>atV Try.prog hint 30 0 Try.f30 35 (List.reverse PaL30_2) e st
noncomputable def L30_2(l0z:Bool)(l0:List T)(A:Bool)(B:List T) :Option Res:=WL30_2 VL30_2 l0z l0 A B
abbrev YL74_5 :=Bool→Bool→(List T)→Bool→Bool→(List T)→Option Res
def PaL74_5 :List Stp:=[.blk, .snd, .fst, .snd, .snd, .snd]
def Ta74(KL74_5:Env→St→Option Res) :Tab:=[(PaL74_5,KL74_5)]
def WL74_5(k:Env→St→Option Res)(ok5 A:Bool)(B:List T)(C D:Bool)(E:List T) :Option Res:=k [(0, .ptr 0 0 0),(1, .fn 75 [.ptr 0 0 0] []),(4, .buf 8),(5, .t (.bool ok5))] ⟨[(0, .var [.t (.list 3 A B), .t (.bool C)]),(8, .arr true 1 D E)],[]⟩
noncomputable def VL74_5 :Env→St→Option Res:=fun e st=>atV Try.prog hint 74 0 Try.f74 28 (List.reverse PaL74_5) e st
noncomputable def L74_5(ok5 A:Bool)(B:List T)(C D:Bool)(E:List T) :Option Res:=WL74_5 VL74_5 ok5 A B C D E
abbrev YL77_5 :=Bool→Bool→(List T)→Bool→Bool→(List T)→Option Res
def PaL77_5 :List Stp:=[.blk, .snd, .fst, .snd, .snd, .snd]
def Ta77(KL77_5:Env→St→Option Res) :Tab:=[(PaL77_5,KL77_5)]
def WL77_5(k:Env→St→Option Res)(ok5 A:Bool)(B:List T)(C D:Bool)(E:List T) :Option Res:=k [(0, .ptr 0 0 0),(1, .fn 73 [.ptr 0 0 0] []),(4, .buf 8),(5, .t (.bool ok5))] ⟨[(0, .var [.t (.list 3 A B), .t (.bool C)]),(8, .arr true 1 D E)],[]⟩
noncomputable def VL77_5 :Env→St→Option Res:=fun e st=>atV Try.prog hint 77 0 Try.f77 28 (List.reverse PaL77_5) e st
noncomputable def L77_5(ok5 A:Bool)(B:List T)(C D:Bool)(E:List T) :Option Res:=WL77_5 VL77_5 ok5 A B C D E
abbrev YL88v1_2 :=Bool→(List T)→Bool→(List (T×T))→Int→Int→ByteArray→Bool→(List T)→Bool→(List T)→Int→Int→ByteArray→Bool→(List T)→Bool→(List T)→Option Res
def PaL88v1_2 :List Stp:=[.blk, .fst, .snd, .snd]
def Ta88v1(KL88v1_2:Env→St→Option Res) :Tab:=[(PaL88v1_2,KL88v1_2)]
def WL88v1_2(k:Env→St→Option Res)(A:Bool)(B:List T)(C:Bool)(D:List (T×T))(E F:Int)(G:ByteArray)(H:Bool)(I:List T)(J:Bool)(K:List T)(L M:Int)(N:ByteArray)(O:Bool)(P:List T)(Q:Bool)(R:List T) :Option Res:=k [(0, .ptr 0 0 0),(1, .fn 109 [.ptr 0 0 0] []),(2, .map 1),(6, .ptr 8 0 0),(7, .ptr 9 0 0)] ⟨[(0, .var [.t (.list 3 A B), .t (.bool C)]),(1, .map D),(8, .var [.t (.int .i64 E), .t (.int .i64 F), .t (.str G), .t (.list 1 H I), .t (.list 5 J K)]),(9, .var [.t (.int .i64 L), .t (.int .i64 M), .t (.str N), .t (.list 1 O P), .t (.list 5 Q R)])],[]⟩
noncomputable def VL88v1_2 :Env→St→Option Res:=fun e st=>atV Try.prog hint 88 1 Try.f88 50 (List.reverse PaL88v1_2) e st
noncomputable def L88v1_2(A:Bool)(B:List T)(C:Bool)(D:List (T×T))(E F:Int)(G:ByteArray)(H:Bool)(I:List T)(J:Bool)(K:List T)(L M:Int)(N:ByteArray)(O:Bool)(P:List T)(Q:Bool)(R:List T) :Option Res:=WL88v1_2 VL88v1_2 A B C D E F G H I J K L M N O P Q R
abbrev YL88_2 :=Bool→(List T)→Bool→(List (T×T))→Int→Int→ByteArray→Bool→(List T)→Bool→(List T)→Int→Int→ByteArray→Bool→(List T)→Bool→(List T)→Option Res
def PaL88_2 :List Stp:=[.blk, .fst, .snd, .snd]
def Ta88(KL88_2:Env→St→Option Res) :Tab:=[(PaL88_2,KL88_2)]
def WL88_2(k:Env→St→Option Res)(A:Bool)(B:List T)(C:Bool)(D:List (T×T))(E F:Int)(G:ByteArray)(H:Bool)(I:List T)(J:Bool)(K:List T)(L M:Int)(N:ByteArray)(O:Bool)(P:List T)(Q:Bool)(R:List T) :Option Res:=k [(0, .ptr 0 0 0),(1, .fn 89 [.ptr 0 0 0] []),(2, .map 1),(6, .ptr 8 0 0),(7, .ptr 9 0 0)] ⟨[(0, .var [.t (.list 3 A B), .t (.bool C)]),(1, .map D),(8, .var [.t (.int .i64 E), .t (.int .i64 F), .t (.str G), .t (.list 1 H I), .t (.list 5 J K)]),(9, .var [.t (.int .i64 L), .t (.int .i64 M), .t (.str N), .t (.list 1 O P), .t (.list 5 Q R)])],[]⟩
noncomputable def VL88_2 :Env→St→Option Res:=fun e st=>atV Try.prog hint 88 0 Try.f88 50 (List.reverse PaL88_2) e st
noncomputable def L88_2(A:Bool)(B:List T)(C:Bool)(D:List (T×T))(E F:Int)(G:ByteArray)(H:Bool)(I:List T)(J:Bool)(K:List T)(L M:Int)(N:ByteArray)(O:Bool)(P:List T)(Q:Bool)(R:List T) :Option Res:=WL88_2 VL88_2 A B C D E F G H I J K L M N O P Q R
abbrev YL114_2 :=Bool→(List T)→Int→Int→Option Res
def PaL114_2 :List Stp:=[.blk, .snd, .fst, .snd]
def Ta114(KL114_2:Env→St→Option Res) :Tab:=[(PaL114_2,KL114_2)]
def WL114_2(k:Env→St→Option Res)(s0z:Bool)(s0:List T)(A B:Int) :Option Res:=k [(0, .t (.list 1 s0z s0)),(1, .fn 100 [] []),(7, .t (.int .i64 A)),(8, .t (.int .i64 B))] ⟨[],[]⟩
noncomputable def VL114_2 :Env→St→Option Res:=fun e st=>atV Try.prog hint 114 0 Try.f114 19 (List.reverse PaL114_2) e st
noncomputable def L114_2(s0z:Bool)(s0:List T)(A B:Int) :Option Res:=WL114_2 VL114_2 s0z s0 A B
abbrev YL115_2 :=Bool→(List T)→Int→Int→Option Res
def PaL115_2 :List Stp:=[.blk, .snd, .fst, .snd]
def Ta115(KL115_2:Env→St→Option Res) :Tab:=[(PaL115_2,KL115_2)]
def WL115_2(k:Env→St→Option Res)(s0z:Bool)(s0:List T)(A B:Int) :Option Res:=k [(0, .t (.list 1 s0z s0)),(1, .fn 102 [] []),(7, .t (.int .i64 A)),(8, .t (.int .i64 B))] ⟨[],[]⟩
noncomputable def VL115_2 :Env→St→Option Res:=fun e st=>atV Try.prog hint 115 0 Try.f115 19 (List.reverse PaL115_2) e st
noncomputable def L115_2(s0z:Bool)(s0:List T)(A B:Int) :Option Res:=WL115_2 VL115_2 s0z s0 A B
abbrev YJ43_14 :=Int→Bool→Int→Int→ByteArray→Bool→(List T)→Bool→(List T)→Int→Int→ByteArray→Bool→(List T)→Bool→(List T)→Option Res
abbrev YL43_18 :=Int→Int→Bool→(List T)→Int→Int→Option Res
def PaJ43_14 :List Stp:=[.snd, .snd, .snd, .snd, .snd]
def PaL43_18 :List Stp:=[.blk, .snd, .fst, .snd, .snd, .snd, .snd, .snd, .snd, .snd]
def Ta43(KJ43_14 KL43_18:Env→St→Option Res) :Tab:=[(PaJ43_14,KJ43_14),(PaL43_18,KL43_18)]
def WJ43_14(k:Env→St→Option Res)(deep1:Int)(ok6:Bool)(A B:Int)(C:ByteArray)(D:Bool)(E:List T)(F:Bool)(G:List T)(H I:Int)(J:ByteArray)(K:Bool)(L:List T)(M:Bool)(N:List T) :Option Res:=k [(1, .t (.int .i64 deep1)),(2, .ptr 8 0 0),(5, .ptr 9 0 0),(6, .t (.bool ok6))] ⟨[(8, .var [.t (.int .i64 A), .t (.int .i64 B), .t (.str C), .t (.list 1 D E), .t (.list 5 F G)]),(9, .var [.t (.int .i64 H), .t (.int .i64 I), .t (.str J), .t (.list 1 K L), .t (.list 5 M N)])],[]⟩
noncomputable def VJ43_14 :Env→St→Option Res:=fun e st=>atV Try.prog hint 43 0 Try.f43 100 (List.reverse PaJ43_14) e st
noncomputable def J43_14(deep1:Int)(ok6:Bool)(A B:Int)(C:ByteArray)(D:Bool)(E:List T)(F:Bool)(G:List T)(H I:Int)(J:ByteArray)(K:Bool)(L:List T)(M:Bool)(N:List T) :Option Res:=WJ43_14 VJ43_14 deep1 ok6 A B C D E F G H I J K L M N
def WL43_18(k:Env→St→Option Res)(deep1 sum7:Int)(A:Bool)(B:List T)(C D:Int) :Option Res:=k [(1, .t (.int .i64 deep1)),(7, .t (.int .i64 sum7)),(83, .t (.list 5 A B)),(84, .t (.int .i64 C)),(85, .t (.int .i64 D))] ⟨[],[]⟩
noncomputable def VL43_18 :Env→St→Option Res:=fun e st=>atV Try.prog hint 43 0 Try.f43 100 (List.reverse PaL43_18) e st
noncomputable def L43_18(deep1 sum7:Int)(A:Bool)(B:List T)(C D:Int) :Option Res:=WL43_18 VL43_18 deep1 sum7 A B C D
abbrev YL24_3 :=Bool→Bool→(List T)→Int→Int→Bool→(List T)→Bool→(List T)→Option Res
abbrev YL24_8 :=Bool→Bool→(List T)→Int→Int→Option Res
def PaL24_3 :List Stp:=[.blk, .snd, .fst, .snd, .snd]
def PaL24_8 :List Stp:=[.blk, .snd, .fst, .snd, .snd, .snd]
def Ta24(KL24_3 KL24_8:Env→St→Option Res) :Tab:=[(PaL24_3,KL24_3),(PaL24_8,KL24_8)]
def WL24_3(k:Env→St→Option Res)(ok3 A:Bool)(B:List T)(C D:Int)(E:Bool)(F:List T)(G:Bool)(H:List T) :Option Res:=k [(1, .ptr 8 0 0),(3, .t (.bool ok3)),(19, .t (.list 4 A B)),(20, .t (.int .i64 C)),(21, .t (.int .i64 D))] ⟨[(8, .var [.t (.list 4 E F), .t (.list 7 G H)])],[]⟩
noncomputable def VL24_3 :Env→St→Option Res:=fun e st=>atV Try.prog hint 24 0 Try.f24 80 (List.reverse PaL24_3) e st
noncomputable def L24_3(ok3 A:Bool)(B:List T)(C D:Int)(E:Bool)(F:List T)(G:Bool)(H:List T) :Option Res:=WL24_3 VL24_3 ok3 A B C D E F G H
def WL24_8(k:Env→St→Option Res)(ok3 A:Bool)(B:List T)(C D:Int) :Option Res:=k [(3, .t (.bool ok3)),(55, .t (.list 7 A B)),(56, .t (.int .i64 C)),(57, .t (.int .i64 D))] ⟨[],[]⟩
noncomputable def VL24_8 :Env→St→Option Res:=fun e st=>atV Try.prog hint 24 0 Try.f24 80 (List.reverse PaL24_8) e st
noncomputable def L24_8(ok3 A:Bool)(B:List T)(C D:Int) :Option Res:=WL24_8 VL24_8 ok3 A B C D
abbrev YL10_6 :=Bool→(List T)→Bool→(List T)→Int→Int→Bool→(List T)→Bool→(List T)→Option Res
abbrev YJ10_14 :=Bool→(List T)→Int→Bool→Bool→(List T)→Int→Int→Bool→(List T)→Bool→(List T)→Bool→(List T)→Bool→Option Res
def PaL10_6 :List Stp:=[.blk, .snd, .fst, .snd, .snd, .snd, .snd]
def PaJ10_14 :List Stp:=[.snd, .snd, .snd, .snd, .blk, .fst, .snd, .snd, .lp, .blk, .snd, .fst, .snd, .snd, .snd, .snd]
def Ta10(KL10_6 KJ10_14:Env→St→Option Res) :Tab:=[(PaL10_6,KL10_6),(PaJ10_14,KJ10_14)]
def WL10_6(k:Env→St→Option Res)(lines8z:Bool)(lines8:List T)(A:Bool)(B:List T)(C D:Int)(E:Bool)(F:List T)(G:Bool)(H:List T) :Option Res:=k [(2, .ptr 8 0 0),(8, .t (.list 1 lines8z lines8)),(26, .t (.list 1 A B)),(27, .t (.int .i64 C)),(28, .t (.int .i64 D))] ⟨[(8, .var [.buf 9, .buf 10]),(9, .arr true 4 E F),(10, .arr true 7 G H)],[]⟩
noncomputable def VL10_6 :Env→St→Option Res:=fun e st=>atV Try.prog hint 10 0 Try.f10 76 (List.reverse PaL10_6) e st
noncomputable def L10_6(lines8z:Bool)(lines8:List T)(A:Bool)(B:List T)(C D:Int)(E:Bool)(F:List T)(G:Bool)(H:List T) :Option Res:=WL10_6 VL10_6 lines8z lines8 A B C D E F G H
def WJ10_14(k:Env→St→Option Res)(lines8z:Bool)(lines8:List T)(i9:Int)(late12 A:Bool)(B:List T)(C D:Int)(E:Bool)(F:List T)(G:Bool)(H:List T)(I:Bool)(J:List T)(K:Bool) :Option Res:=k [(2, .ptr 8 0 0),(8, .t (.list 1 lines8z lines8)),(9, .t (.int .i64 i9)),(11, .ptr 11 0 0),(12, .t (.bool late12)),(26, .t (.list 1 A B)),(27, .t (.int .i64 C)),(28, .t (.int .i64 D))] ⟨[(8, .var [.buf 9, .buf 10]),(9, .arr true 4 E F),(10, .arr true 7 G H),(11, .var [.t (.list 3 I J), .t (.bool K)])],[]⟩
noncomputable def VJ10_14 :Env→St→Option Res:=fun e st=>atV Try.prog hint 10 0 Try.f10 76 (List.reverse PaJ10_14) e st
noncomputable def J10_14(lines8z:Bool)(lines8:List T)(i9:Int)(late12 A:Bool)(B:List T)(C D:Int)(E:Bool)(F:List T)(G:Bool)(H:List T)(I:Bool)(J:List T)(K:Bool) :Option Res:=WJ10_14 VJ10_14 lines8z lines8 i9 late12 A B C D E F G H I J K
abbrev YL116_1 :=Int→Int→Bool→(List T)→Option Res
def PaL116_1 :List Stp:=[.blk, .snd]
def Ta116(KL116_1:Env→St→Option Res) :Tab:=[(PaL116_1,KL116_1)]
def WL116_1(k:Env→St→Option Res)(i2 j3:Int)(A:Bool)(B:List T) :Option Res:=k [(0, .buf 0),(2, .t (.int .i64 i2)),(3, .t (.int .i64 j3))] ⟨[(0, .arr true 1 A B)],[]⟩
noncomputable def VL116_1 :Env→St→Option Res:=fun e st=>atV Try.prog hint 116 0 Try.f116 28 (List.reverse PaL116_1) e st
noncomputable def L116_1(i2 j3:Int)(A:Bool)(B:List T) :Option Res:=WL116_1 VL116_1 i2 j3 A B
abbrev YL103_5 :=Int→Int→Bool→(List T)→Option Res
def PaL103_5 :List Stp:=[.blk, .fst, .snd, .snd, .snd, .snd]
def Ta103(KL103_5:Env→St→Option Res) :Tab:=[(PaL103_5,KL103_5)]
def WL103_5(k:Env→St→Option Res)(n0 u4:Int)(A:Bool)(B:List T) :Option Res:=k [(0, .t (.int .i64 n0)),(3, .buf 8),(4, .t (.int .u64 u4))] ⟨[(8, .arr true 1 A B)],[]⟩
noncomputable def VL103_5 :Env→St→Option Res:=fun e st=>atV Try.prog hint 103 0 Try.f103 31 (List.reverse PaL103_5) e st
noncomputable def L103_5(n0 u4:Int)(A:Bool)(B:List T) :Option Res:=WL103_5 VL103_5 n0 u4 A B
abbrev YL55_2 :=Bool→(List T)→Int→Int→Bool→(List T)→Option Res
def PaL55_2 :List Stp:=[.blk, .snd, .fst, .snd]
def Ta55(KL55_2:Env→St→Option Res) :Tab:=[(PaL55_2,KL55_2)]
def WL55_2(k:Env→St→Option Res)(A:Bool)(B:List T)(C D:Int)(E:Bool)(F:List T) :Option Res:=k [(0, .ptr 0 0 0),(2, .fn 56 [.ptr 0 0 0] []),(10, .t (.list 1 A B)),(11, .t (.int .i64 C)),(12, .t (.int .i64 D))] ⟨[(0, .var [.buf 8]),(8, .arr true 3 E F)],[]⟩
noncomputable def VL55_2 :Env→St→Option Res:=fun e st=>atV Try.prog hint 55 0 Try.f55 27 (List.reverse PaL55_2) e st
noncomputable def L55_2(A:Bool)(B:List T)(C D:Int)(E:Bool)(F:List T) :Option Res:=WL55_2 VL55_2 A B C D E F
abbrev YL58_2 :=Bool→(List T)→Int→Int→Bool→(List T)→Option Res
def PaL58_2 :List Stp:=[.blk, .snd, .fst, .snd]
def Ta58(KL58_2:Env→St→Option Res) :Tab:=[(PaL58_2,KL58_2)]
def WL58_2(k:Env→St→Option Res)(A:Bool)(B:List T)(C D:Int)(E:Bool)(F:List T) :Option Res:=k [(0, .ptr 0 0 0),(2, .fn 54 [.ptr 0 0 0] []),(10, .t (.list 1 A B)),(11, .t (.int .i64 C)),(12, .t (.int .i64 D))] ⟨[(0, .var [.buf 8]),(8, .arr true 3 E F)],[]⟩
noncomputable def VL58_2 :Env→St→Option Res:=fun e st=>atV Try.prog hint 58 0 Try.f58 27 (List.reverse PaL58_2) e st
noncomputable def L58_2(A:Bool)(B:List T)(C D:Int)(E:Bool)(F:List T) :Option Res:=WL58_2 VL58_2 A B C D E F
abbrev YL25_6 :=Bool→(List T)→Int→Int→Bool→(List T)→Bool→(List T)→Bool→(List T)→Option Res
abbrev YL25_18 :=Bool→(List T)→Int→Int→Bool→(List T)→Option Res
def PaL25_6 :List Stp:=[.blk, .snd, .fst, .snd, .snd, .snd]
def PaL25_18 :List Stp:=[.blk, .snd, .fst, .snd, .snd, .snd, .snd]
def Ta25(KL25_6 KL25_18:Env→St→Option Res) :Tab:=[(PaL25_6,KL25_6),(PaL25_18,KL25_18)]
def WL25_6(k:Env→St→Option Res)(A:Bool)(B:List T)(C D:Int)(E:Bool)(F:List T)(G:Bool)(H:List T)(I:Bool)(J:List T) :Option Res:=k [(1, .ptr 8 0 0),(5, .ptr 9 0 0),(18, .t (.list 4 A B)),(19, .t (.int .i64 C)),(20, .t (.int .i64 D))] ⟨[(8, .var [.t (.list 4 E F), .t (.list 7 G H)]),(9, .var [.buf 10]),(10, .arr true 3 I J)],[]⟩
noncomputable def VL25_6 :Env→St→Option Res:=fun e st=>atV Try.prog hint 25 0 Try.f25 85 (List.reverse PaL25_6) e st
noncomputable def L25_6(A:Bool)(B:List T)(C D:Int)(E:Bool)(F:List T)(G:Bool)(H:List T)(I:Bool)(J:List T) :Option Res:=WL25_6 VL25_6 A B C D E F G H I J
def WL25_18(k:Env→St→Option Res)(A:Bool)(B:List T)(C D:Int)(E:Bool)(F:List T) :Option Res:=k [(5, .ptr 8 0 0),(53, .t (.list 7 A B)),(54, .t (.int .i64 C)),(55, .t (.int .i64 D))] ⟨[(8, .var [.buf 9]),(9, .arr true 3 E F)],[]⟩
noncomputable def VL25_18 :Env→St→Option Res:=fun e st=>atV Try.prog hint 25 0 Try.f25 85 (List.reverse PaL25_18) e st
noncomputable def L25_18(A:Bool)(B:List T)(C D:Int)(E:Bool)(F:List T) :Option Res:=WL25_18 VL25_18 A B C D E F
abbrev YL61_4 :=Bool→(List T)→Bool→(List T)→Int→Int→Option Res
def PaL61_4 :List Stp:=[.blk, .snd, .fst, .snd, .snd]
def Ta61(KL61_4:Env→St→Option Res) :Tab:=[(PaL61_4,KL61_4)]
def WL61_4(k:Env→St→Option Res)(s10z:Bool)(s10:List T)(s21z:Bool)(s21:List T)(A B:Int) :Option Res:=k [(0, .t (.list 1 s10z s10)),(1, .t (.list 1 s21z s21)),(12, .t (.int .i64 A)),(13, .t (.int .i64 B))] ⟨[],[]⟩
noncomputable def VL61_4 :Env→St→Option Res:=fun e st=>atV Try.prog hint 61 0 Try.f61 26 (List.reverse PaL61_4) e st
noncomputable def L61_4(s10z:Bool)(s10:List T)(s21z:Bool)(s21:List T)(A B:Int) :Option Res:=WL61_4 VL61_4 s10z s10 s21z s21 A B
abbrev YL59_4 :=Bool→(List T)→Bool→(List T)→Int→Int→Option Res
def PaL59_4 :List Stp:=[.blk, .snd, .fst, .snd, .snd]
def Ta59(KL59_4:Env→St→Option Res) :Tab:=[(PaL59_4,KL59_4)]
def WL59_4(k:Env→St→Option Res)(s21z:Bool)(s21:List T)(A:Bool)(B:List T)(C D:Int) :Option Res:=k [(1, .t (.list 4 s21z s21)),(2, .fn 60 [] []),(15, .t (.list 4 A B)),(16, .t (.int .i64 C)),(17, .t (.int .i64 D))] ⟨[],[]⟩
noncomputable def VL59_4 :Env→St→Option Res:=fun e st=>atV Try.prog hint 59 0 Try.f59 32 (List.reverse PaL59_4) e st
noncomputable def L59_4(s21z:Bool)(s21:List T)(A:Bool)(B:List T)(C D:Int) :Option Res:=WL59_4 VL59_4 s21z s21 A B C D
abbrev YL47_4 :=Bool→(List T)→Bool→(List T)→Int→Int→Option Res
def PaL47_4 :List Stp:=[.blk, .snd, .fst, .snd, .snd]
def Ta47(KL47_4:Env→St→Option Res) :Tab:=[(PaL47_4,KL47_4)]
def WL47_4(k:Env→St→Option Res)(s10z:Bool)(s10:List T)(s21z:Bool)(s21:List T)(A B:Int) :Option Res:=k [(0, .t (.list 1 s10z s10)),(1, .t (.list 1 s21z s21)),(12, .t (.int .i64 A)),(13, .t (.int .i64 B))] ⟨[],[]⟩
noncomputable def VL47_4 :Env→St→Option Res:=fun e st=>atV Try.prog hint 47 0 Try.f47 26 (List.reverse PaL47_4) e st
noncomputable def L47_4(s10z:Bool)(s10:List T)(s21z:Bool)(s21:List T)(A B:Int) :Option Res:=WL47_4 VL47_4 s10z s10 s21z s21 A B
abbrev YL48_4 :=Bool→(List T)→Bool→(List T)→Int→Int→Option Res
def PaL48_4 :List Stp:=[.blk, .snd, .fst, .snd, .snd]
def Ta48(KL48_4:Env→St→Option Res) :Tab:=[(PaL48_4,KL48_4)]
def WL48_4(k:Env→St→Option Res)(s21z:Bool)(s21:List T)(A:Bool)(B:List T)(C D:Int) :Option Res:=k [(1, .t (.list 5 s21z s21)),(2, .fn 23 [] []),(15, .t (.list 5 A B)),(16, .t (.int .i64 C)),(17, .t (.int .i64 D))] ⟨[],[]⟩
noncomputable def VL48_4 :Env→St→Option Res:=fun e st=>atV Try.prog hint 48 0 Try.f48 32 (List.reverse PaL48_4) e st
noncomputable def L48_4(s21z:Bool)(s21:List T)(A:Bool)(B:List T)(C D:Int) :Option Res:=WL48_4 VL48_4 s21z s21 A B C D
abbrev YL62_4 :=Bool→(List T)→Bool→(List T)→Int→Int→Option Res
def PaL62_4 :List Stp:=[.blk, .snd, .fst, .snd, .snd]
def Ta62(KL62_4:Env→St→Option Res) :Tab:=[(PaL62_4,KL62_4)]
def WL62_4(k:Env→St→Option Res)(s21z:Bool)(s21:List T)(A:Bool)(B:List T)(C D:Int) :Option Res:=k [(1, .t (.list 7 s21z s21)),(2, .fn 63 [] []),(15, .t (.list 7 A B)),(16, .t (.int .i64 C)),(17, .t (.int .i64 D))] ⟨[],[]⟩
noncomputable def VL62_4 :Env→St→Option Res:=fun e st=>atV Try.prog hint 62 0 Try.f62 32 (List.reverse PaL62_4) e st
noncomputable def L62_4(s21z:Bool)(s21:List T)(A:Bool)(B:List T)(C D:Int) :Option Res:=WL62_4 VL62_4 s21z s21 A B C D
abbrev YL16_4 :=Int→Bool→(List T)→Int→Int→Int→Int→ByteArray→Bool→(List T)→Bool→(List T)→Option Res
abbrev YL16_10 :=Int→Bool→(List T)→Int→Int→Option Res
def PaL16_4 :List Stp:=[.blk, .snd, .fst, .snd, .snd]
def PaL16_10 :List Stp:=[.blk, .snd, .fst, .snd, .snd, .snd]
def Ta16(KL16_4 KL16_10:Env→St→Option Res) :Tab:=[(PaL16_4,KL16_4),(PaL16_10,KL16_10)]
def WL16_4(k:Env→St→Option Res)(deep1:Int)(A:Bool)(B:List T)(C D E F:Int)(G:ByteArray)(H:Bool)(I:List T)(J:Bool)(K:List T) :Option Res:=k [(1, .t (.int .i64 deep1)),(2, .ptr 8 0 0),(30, .t (.list 1 A B)),(31, .t (.int .i64 C)),(32, .t (.int .i64 D))] ⟨[(8, .var [.t (.int .i64 E), .t (.int .i64 F), .t (.str G), .t (.list 1 H I), .t (.list 5 J K)])],[]⟩
noncomputable def VL16_4 :Env→St→Option Res:=fun e st=>atV Try.prog hint 16 0 Try.f16 53 (List.reverse PaL16_4) e st
noncomputable def L16_4(deep1:Int)(A:Bool)(B:List T)(C D E F:Int)(G:ByteArray)(H:Bool)(I:List T)(J:Bool)(K:List T) :Option Res:=WL16_4 VL16_4 deep1 A B C D E F G H I J K
def WL16_10(k:Env→St→Option Res)(deep1:Int)(A:Bool)(B:List T)(C D:Int) :Option Res:=k [(1, .t (.int .i64 deep1)),(41, .t (.list 5 A B)),(42, .t (.int .i64 C)),(43, .t (.int .i64 D))] ⟨[],[]⟩
noncomputable def VL16_10 :Env→St→Option Res:=fun e st=>atV Try.prog hint 16 0 Try.f16 53 (List.reverse PaL16_10) e st
noncomputable def L16_10(deep1:Int)(A:Bool)(B:List T)(C D:Int) :Option Res:=WL16_10 VL16_10 deep1 A B C D
abbrev YL27_2 :=Bool→(List T)→Int→Int→Bool→(List T)→Bool→(List T)→Option Res
abbrev YL27_8 :=Bool→(List T)→Int→Int→Bool→(List T)→Bool→(List T)→Option Res
abbrev YL27_13 :=Bool→(List T)→Int→Int→Bool→(List T)→Int→Int→Bool→(List T)→Bool→(List T)→Option Res
def PaL27_2 :List Stp:=[.blk, .snd, .fst, .snd]
def PaL27_8 :List Stp:=[.blk, .snd, .fst, .snd, .snd]
def PaL27_13 :List Stp:=[.blk, .snd, .snd, .snd, .blk, .fst, .snd, .snd, .lp, .blk, .snd, .fst, .snd, .snd]
def Ta27(KL27_2 KL27_8 KL27_13:Env→St→Option Res) :Tab:=[(PaL27_2,KL27_2),(PaL27_8,KL27_8),(PaL27_13,KL27_13)]
def WL27_2(k:Env→St→Option Res)(A:Bool)(B:List T)(C D:Int)(E:Bool)(F:List T)(G:Bool)(H:List T) :Option Res:=k [(1, .ptr 8 0 0),(10, .t (.list 4 A B)),(11, .t (.int .i64 C)),(12, .t (.int .i64 D))] ⟨[(8, .var [.t (.list 4 E F), .t (.list 7 G H)])],[]⟩
noncomputable def VL27_2 :Env→St→Option Res:=fun e st=>atV Try.prog hint 27 0 Try.f27 76 (List.reverse PaL27_2) e st
noncomputable def L27_2(A:Bool)(B:List T)(C D:Int)(E:Bool)(F:List T)(G:Bool)(H:List T) :Option Res:=WL27_2 VL27_2 A B C D E F G H
def WL27_8(k:Env→St→Option Res)(A:Bool)(B:List T)(C D:Int)(E:Bool)(F:List T)(G:Bool)(H:List T) :Option Res:=k [(1, .ptr 8 0 0),(32, .t (.list 7 A B)),(33, .t (.int .i64 C)),(34, .t (.int .i64 D))] ⟨[(8, .var [.t (.list 4 E F), .t (.list 7 G H)])],[]⟩
noncomputable def VL27_8 :Env→St→Option Res:=fun e st=>atV Try.prog hint 27 0 Try.f27 76 (List.reverse PaL27_8) e st
noncomputable def L27_8(A:Bool)(B:List T)(C D:Int)(E:Bool)(F:List T)(G:Bool)(H:List T) :Option Res:=WL27_8 VL27_8 A B C D E F G H
def WL27_13(k:Env→St→Option Res)(A:Bool)(B:List T)(C D:Int)(E:Bool)(F:List T)(G H:Int)(I:Bool)(J:List T)(K:Bool)(L:List T) :Option Res:=k [(1, .ptr 8 0 0),(32, .t (.list 7 A B)),(33, .t (.int .i64 C)),(34, .t (.int .i64 D)),(55, .t (.list 1 E F)),(56, .t (.int .i64 G)),(57, .t (.int .i64 H))] ⟨[(8, .var [.t (.list 4 I J), .t (.list 7 K L)])],[]⟩
noncomputable def VL27_13 :Env→St→Option Res:=fun e st=>atV Try.prog hint 27 0 Try.f27 76 (List.reverse PaL27_13) e st
noncomputable def L27_13(A:Bool)(B:List T)(C D:Int)(E:Bool)(F:List T)(G H:Int)(I:Bool)(J:List T)(K:Bool)(L:List T) :Option Res:=WL27_13 VL27_13 A B C D E F G H I J K L
abbrev YJ8_9 :=Bool→Bool→(List T)→Bool→(List T)→Option Res
def PaJ8_9 :List Stp:=[.snd, .snd, .snd, .snd]
def Ta8(KJ8_9:Env→St→Option Res) :Tab:=[(PaJ8_9,KJ8_9)]
def WJ8_9(k:Env→St→Option Res)(up5 A:Bool)(B:List T)(C:Bool)(D:List T) :Option Res:=k [(2, .ptr 8 0 0),(5, .t (.bool up5))] ⟨[(8, .var [.t (.list 4 A B), .t (.list 7 C D)])],[]⟩
noncomputable def VJ8_9 :Env→St→Option Res:=fun e st=>atV Try.prog hint 8 0 Try.f8 93 (List.reverse PaJ8_9) e st
noncomputable def J8_9(up5 A:Bool)(B:List T)(C:Bool)(D:List T) :Option Res:=WJ8_9 VJ8_9 up5 A B C D
abbrev Z0(v0 v1:Int)(v2:ByteArray)(v3:Bool)(v4:List T)(v5:Bool)(v6:List T)(v7:Bool)(v8:List T)(v9:Bool) :Option Res:=some ((.t (.agg [.int .i64 v0, .int .i64 v1, .str v2, .list 1 v3 v4, .list 5 v5 v6])),⟨[(0, .var [.t (.list 3 v7 v8), .t (.bool v9)])],[500]⟩)
abbrev Z1(v0 v1:Int)(v2:ByteArray)(v3:Bool)(v4:List T)(v5:Bool)(v6:List T)(v7:Bool)(v8:List T)(v9:Bool)(v10:List (T×T)) :Option Res:=some ((.t (.agg [.int .i64 v0, .int .i64 v1, .str v2, .list 1 v3 v4, .list 5 v5 v6])),⟨[(0, .var [.t (.list 3 v7 v8), .t (.bool v9)]),(1, .map v10)],[500,501]⟩)
abbrev Z2(v0:Bool)(v1:List T)(v2:Bool) :St:=⟨[(0, .var [.t (.list 3 v0 v1), .t (.bool v2)])],[500]⟩
abbrev Z3(v0:Bool)(v1:List T)(v2:Bool) :St:=⟨[(0, .var [.t (.list 3 v0 v1), .t (.bool v2)])],[]⟩
abbrev Z4(v0:Bool)(v1:List T) :St:=⟨[(0, .var [.buf 1]),(1, .arr true 3 v0 v1)],[]⟩
noncomputable def R65(A:ByteArray)(B:Int) :Option Res:=callK (vr 104 0 [.t (.str A), .t (.int .u8 B)] ⟨[],[]⟩) fun a b=>asT a fun c=>asI .i64 c fun a=>endB b <| some ((.t (.int .i64 a)),⟨[],[]⟩)
theorem eq65g(A:ByteArray)(B:Int) :gE 65 0 8 Try.f65 [] [.t (.str A), .t (.int .u8 B)] ⟨[],[]⟩=R65 A B:=by kernel_rfl
theorem eq65(A:ByteArray)(B:Int) :vr 65 0 [.t (.str A), .t (.int .u8 B)] ⟨[],[]⟩=R65 A B:=
 Eq.trans (call_eq Try.prog hint (fn:=Try.f65) (nt:=8) (T:=[]) [] rfl _ _ rfl rfl rfl rfl rfl) (eq65g A B)
noncomputable def R64(A:Int) :Option Res:=
(bif (decide (97≤(bitsI .or .u8 A 32))) then
(bif (decide ((bitsI .or .u8 A 32)≤122)) then
 some ((.t (.int .i64 1)),⟨[],[]⟩)
else
(bif (decide (48≤A)) then
(bif (decide (A≤57)) then
 some ((.t (.int .i64 2)),⟨[],[]⟩)
else
 callK (vr 65 0 [.t (.str ⟨#[43,45,42,40,41,91,93,44,61,58]⟩), .t (.int .u8 A)] ⟨[],[]⟩) fun a b=>asT a fun c=>asI .i64 c fun a=>endB b <|
(bif (decide (0≤a)) then
 some ((.t (.int .i64 3)),⟨[],[]⟩)
else
(bif (decide (A=32)) then
 some ((.t (.int .i64 4)),⟨[],[]⟩)
else
(bif (decide (A=9)) then
 some ((.t (.int .i64 4)),⟨[],[]⟩)
else
(bif (decide (A=10)) then
 some ((.t (.int .i64 5)),⟨[],[]⟩)
else
(bif (decide (A=35)) then
 some ((.t (.int .i64 6)),⟨[],[]⟩)
else
 some ((.t (.int .i64 0)),⟨[],[]⟩)))))))
else
 callK (vr 65 0 [.t (.str ⟨#[43,45,42,40,41,91,93,44,61,58]⟩), .t (.int .u8 A)] ⟨[],[]⟩) fun a b=>asT a fun c=>asI .i64 c fun a=>endB b <|
(bif (decide (0≤a)) then
 some ((.t (.int .i64 3)),⟨[],[]⟩)
else
(bif (decide (A=32)) then
 some ((.t (.int .i64 4)),⟨[],[]⟩)
else
(bif (decide (A=9)) then
 some ((.t (.int .i64 4)),⟨[],[]⟩)
else
(bif (decide (A=10)) then
 some ((.t (.int .i64 5)),⟨[],[]⟩)
else
(bif (decide (A=35)) then
 some ((.t (.int .i64 6)),⟨[],[]⟩)
else
 some ((.t (.int .i64 0)),⟨[],[]⟩))))))))
else
(bif (decide (48≤A)) then
(bif (decide (A≤57)) then
 some ((.t (.int .i64 2)),⟨[],[]⟩)
else
 callK (vr 65 0 [.t (.str ⟨#[43,45,42,40,41,91,93,44,61,58]⟩), .t (.int .u8 A)] ⟨[],[]⟩) fun a b=>asT a fun c=>asI .i64 c fun a=>endB b <|
(bif (decide (0≤a)) then
 some ((.t (.int .i64 3)),⟨[],[]⟩)
else
(bif (decide (A=32)) then
 some ((.t (.int .i64 4)),⟨[],[]⟩)
else
(bif (decide (A=9)) then
 some ((.t (.int .i64 4)),⟨[],[]⟩)
else
(bif (decide (A=10)) then
 some ((.t (.int .i64 5)),⟨[],[]⟩)
else
(bif (decide (A=35)) then
 some ((.t (.int .i64 6)),⟨[],[]⟩)
else
 some ((.t (.int .i64 0)),⟨[],[]⟩)))))))
else
 callK (vr 65 0 [.t (.str ⟨#[43,45,42,40,41,91,93,44,61,58]⟩), .t (.int .u8 A)] ⟨[],[]⟩) fun a b=>asT a fun c=>asI .i64 c fun a=>endB b <|
(bif (decide (0≤a)) then
 some ((.t (.int .i64 3)),⟨[],[]⟩)
else
(bif (decide (A=32)) then
 some ((.t (.int .i64 4)),⟨[],[]⟩)
else
(bif (decide (A=9)) then
 some ((.t (.int .i64 4)),⟨[],[]⟩)
else
(bif (decide (A=10)) then
 some ((.t (.int .i64 5)),⟨[],[]⟩)
else
(bif (decide (A=35)) then
 some ((.t (.int .i64 6)),⟨[],[]⟩)
else
 some ((.t (.int .i64 0)),⟨[],[]⟩))))))))
theorem eq64g(A:Int) :gE 64 0 36 Try.f64 [] [.t (.int .u8 A)] ⟨[],[]⟩=R64 A:=by kernel_rfl
theorem eq64(A:Int) :vr 64 0 [.t (.int .u8 A)] ⟨[],[]⟩=R64 A:=
 Eq.trans (call_eq Try.prog hint (fn:=Try.f64) (nt:=36) (T:=[]) [] rfl _ _ rfl rfl rfl rfl rfl) (eq64g A)
noncomputable def R66(L66_2:YL66_2)(A:ByteArray) :Option Res:=L66_2 (A) (0)
theorem eq66g(KL66_2:Env→St→Option Res)(A:ByteArray) :gE 66 0 25 Try.f66 (Ta66 KL66_2) [.t (.str A)] ⟨[],[]⟩=R66 (WL66_2 KL66_2) A:=by kernel_rfl
theorem eq66(A:ByteArray) :vr 66 0 [.t (.str A)] ⟨[],[]⟩=R66 L66_2 A:=
 Eq.trans (call_eq Try.prog hint (fn:=Try.f66) (nt:=25) (T:=(Ta66 VL66_2)) [PaL66_2] rfl _ _ rfl rfl rfl rfl rfl) (eq66g VL66_2 A)
noncomputable def RL66_2(L66_2:YL66_2)(s0:ByteArray)(n3:Int) :Option Res:=
(bif (decide (n3<(s0.size:Int))) then
 needC (decide (0≤n3) &&decide (n3<(s0.size:Int))) fun _=>callK (vr 64 0 [.t (.int .u8 (((s0:ByteArray)[(n3).toNat]!).toNat:Int))] ⟨[],[]⟩) fun a b=>asT a fun c=>asI .i64 c fun a=>endB b <|
(bif (decide (a=1)) then
 L66_2 (s0) ((IntKind.i64.wrap (n3+1)))
else
 needC (decide (0≤n3) &&decide (n3<(s0.size:Int))) fun _=>callK (vr 64 0 [.t (.int .u8 (((s0:ByteArray)[(n3).toNat]!).toNat:Int))] ⟨[],[]⟩) fun a b=>asT a fun c=>asI .i64 c fun a=>endB b <|
(bif (decide (a=2)) then
 L66_2 (s0) ((IntKind.i64.wrap (n3+1)))
else
 some ((.t (.int .i64 n3)),⟨[],[]⟩)))
else
 some ((.t (.int .i64 n3)),⟨[],[]⟩))
theorem L66_2g(KL66_2:Env→St→Option Res)(s0:ByteArray)(n3:Int) :WL66_2 (fun e st=>gP 66 0 25 Try.f66 (Ta66 KL66_2) (.lp::PaL66_2) e st) s0 n3=RL66_2 (WL66_2 KL66_2) s0 n3:=by kernel_rfl
theorem L66_2_eq(s0:ByteArray)(n3:Int) :L66_2 s0 n3=RL66_2 L66_2 s0 n3:=
 (congrArg (fun k=>WL66_2 k s0 n3) (funext fun e=>funext fun st=>round_eq Try.prog hint (b:=(nav (List.reverse (.lp::PaL66_2)) (bodyOf Try.f66))) (fn:=Try.f66) (nt:=25) (T:=(Ta66 VL66_2)) [PaL66_2] rfl PaL66_2 e st rfl rfl rfl)).trans (L66_2g VL66_2 s0 n3)
noncomputable def R51(A:ByteArray) :Option Res:=
(bif (!decide ((A:ByteArray)=⟨#[]⟩)) then
(bif (decide ((A.size:Int)≤16)) then
 needC (decide (0≤0) &&decide ((0:Int)<(A.size:Int))) fun _=>callK (vr 64 0 [.t (.int .u8 (((A:ByteArray)[((0:Int)).toNat]!).toNat:Int))] ⟨[],[]⟩) fun a b=>asT a fun c=>asI .i64 c fun a=>endB b <|
(bif (decide (a=1)) then
 callK (vr 66 0 [.t (.str A)] ⟨[],[]⟩) fun a b=>asT a fun c=>asI .i64 c fun a=>endB b <| some ((.t (.bool (decide (a=(A.size:Int))))),⟨[],[]⟩)
else
 some ((.t (.bool false)),⟨[],[]⟩))
else
 some ((.t (.bool false)),⟨[],[]⟩))
else
 some ((.t (.bool false)),⟨[],[]⟩))
theorem eq51g(A:ByteArray) :gE 51 0 23 Try.f51 [] [.t (.str A)] ⟨[],[]⟩=R51 A:=by kernel_rfl
theorem eq51(A:ByteArray) :vr 51 0 [.t (.str A)] ⟨[],[]⟩=R51 A:=
 Eq.trans (call_eq Try.prog hint (fn:=Try.f51) (nt:=23) (T:=[]) [] rfl _ _ rfl rfl rfl rfl rfl) (eq51g A)
noncomputable def R105(L105_4:YL105_4)(A:ByteArray) :Option Res:=
(bif (decide ((A:ByteArray)=⟨#[]⟩)) then
 some ((.tup [.t (.int .i64 0), .t (.bool false)]),⟨[],[]⟩)
else
(bif (decide (18<(A.size:Int))) then
 some ((.tup [.t (.int .i64 0), .t (.bool false)]),⟨[],[]⟩)
else
(bif (decide (1<(A.size:Int))) then
 needC (decide (0≤0) &&decide ((0:Int)<(A.size:Int))) fun _=>
(bif (decide ((((A:ByteArray)[((0:Int)).toNat]!).toNat:Int)=48)) then
 some ((.tup [.t (.int .i64 0), .t (.bool false)]),⟨[],[]⟩)
else
 L105_4 (A) (0) ((A.size:Int)) (0))
else
 L105_4 (A) (0) ((A.size:Int)) (0))))
theorem eq105g(KL105_4:Env→St→Option Res)(A:ByteArray) :gE 105 0 42 Try.f105 (Ta105 KL105_4) [.t (.str A)] ⟨[],[]⟩=R105 (WL105_4 KL105_4) A:=by kernel_rfl
theorem eq105(A:ByteArray) :vr 105 0 [.t (.str A)] ⟨[],[]⟩=R105 L105_4 A:=
 Eq.trans (call_eq Try.prog hint (fn:=Try.f105) (nt:=42) (T:=(Ta105 VL105_4)) [PaL105_4] rfl _ _ rfl rfl rfl rfl rfl) (eq105g VL105_4 A)
noncomputable def RL105_4(L105_4:YL105_4)(s0:ByteArray)(n2 A B:Int) :Option Res:=
(bif (decide (B<A)) then
 needC (decide (0≤B) &&decide (B<(s0.size:Int))) fun _=>callK (vr 64 0 [.t (.int .u8 (((s0:ByteArray)[(B).toNat]!).toNat:Int))] ⟨[],[]⟩) fun a b=>asT a fun c=>asI .i64 c fun a=>endB b <|
(bif (!decide (a=2)) then
 some ((.tup [.t (.int .i64 0), .t (.bool false)]),⟨[],[]⟩)
else
 needC (decide (0≤B) &&decide (B<(s0.size:Int))) fun _=>L105_4 (s0) ((IntKind.i64.wrap ((IntKind.i64.wrap ((10:Int)*n2))+(IntKind.i64.wrap (IntKind.u8.wrap ((((s0:ByteArray)[(B).toNat]!).toNat:Int) - 48)))))) (A) ((IntKind.i64.wrap (B+1))))
else
 some ((.tup [.t (.int .i64 n2), .t (.bool true)]),⟨[],[]⟩))
theorem L105_4g(KL105_4:Env→St→Option Res)(s0:ByteArray)(n2 A B:Int) :WL105_4 (fun e st=>gP 105 0 42 Try.f105 (Ta105 KL105_4) (.lp::PaL105_4) e st) s0 n2 A B=RL105_4 (WL105_4 KL105_4) s0 n2 A B:=by kernel_rfl
theorem L105_4_eq(s0:ByteArray)(n2 A B:Int) :L105_4 s0 n2 A B=RL105_4 L105_4 s0 n2 A B:=
 (congrArg (fun k=>WL105_4 k s0 n2 A B) (funext fun e=>funext fun st=>round_eq Try.prog hint (b:=(nav (List.reverse (.lp::PaL105_4)) (bodyOf Try.f105))) (fn:=Try.f105) (nt:=42) (T:=(Ta105 VL105_4)) [PaL105_4] rfl PaL105_4 e st rfl rfl rfl)).trans (L105_4g VL105_4 s0 n2 A B)
noncomputable def R67(A:ByteArray) :Option Res:=callK (vr 51 0 [.t (.str A)] ⟨[],[]⟩) fun a b=>asT a fun c=>asB c fun a=>endB b <|
(bif a then
 some ((.tup [.t (.agg [.int .i64 1, .str A, .int .i64 0]), .t (.bool true)]),⟨[],[]⟩)
else
(bif (decide ((A.size:Int)=1)) then
 needC (decide (0≤0) &&decide ((0:Int)<(A.size:Int))) fun _=>callK (vr 64 0 [.t (.int .u8 (((A:ByteArray)[((0:Int)).toNat]!).toNat:Int))] ⟨[],[]⟩) fun a b=>asT a fun c=>asI .i64 c fun a=>endB b <|
(bif (decide (a=3)) then
 some ((.tup [.t (.agg [.int .i64 3, .str A, .int .i64 0]), .t (.bool true)]),⟨[],[]⟩)
else
 callK (vr 105 0 [.t (.str A)] ⟨[],[]⟩) fun a b=>asTup a fun c=>consV c fun a d=>asT a fun c=>asI .i64 c fun a=>consV d fun c f=>asT c fun d=>asB d fun c=>endV f <| endB b <| some ((.tup [.t (.agg [.int .i64 2, .str A, .int .i64 a]), .t (.bool c)]),⟨[],[]⟩))
else
 callK (vr 105 0 [.t (.str A)] ⟨[],[]⟩) fun a b=>asTup a fun c=>consV c fun a d=>asT a fun c=>asI .i64 c fun a=>consV d fun c f=>asT c fun d=>asB d fun c=>endV f <| endB b <| some ((.tup [.t (.agg [.int .i64 2, .str A, .int .i64 a]), .t (.bool c)]),⟨[],[]⟩)))
theorem eq67g(A:ByteArray) :gE 67 0 31 Try.f67 [] [.t (.str A)] ⟨[],[]⟩=R67 A:=by kernel_rfl
theorem eq67(A:ByteArray) :vr 67 0 [.t (.str A)] ⟨[],[]⟩=R67 A:=
 Eq.trans (call_eq Try.prog hint (fn:=Try.f67) (nt:=31) (T:=[]) [] rfl _ _ rfl rfl rfl rfl rfl) (eq67g A)
noncomputable def R28(L28_6:YL28_6)(J28_28:YJ28_28)(J28_21:YJ28_21)(J28_26:YJ28_26)(A:ByteArray) :Option Res:=
(bif (decide (65536<(A.size:Int))) then
 some ((.tup [.t (.list 3 false []), .t (.int .i64 0), .t (.int .i64 2)]),⟨[],[]⟩)
else
 L28_6 (A) (false) (0) (false) ([]))
theorem eq28g(KL28_6 KJ28_28 KJ28_21 KJ28_26:Env→St→Option Res)(A:ByteArray) :gE 28 0 82 Try.f28 (Ta28 KL28_6 KJ28_28 KJ28_21 KJ28_26) [.t (.str A)] ⟨[],[]⟩=R28 (WL28_6 KL28_6) (WJ28_28 KJ28_28) (WJ28_21 KJ28_21) (WJ28_26 KJ28_26) A:=by kernel_rfl
theorem eq28(A:ByteArray) :vr 28 0 [.t (.str A)] ⟨[],[]⟩=R28 L28_6 J28_28 J28_21 J28_26 A:=
 Eq.trans (call_eq Try.prog hint (fn:=Try.f28) (nt:=82) (T:=(Ta28 VL28_6 VJ28_28 VJ28_21 VJ28_26)) [PaL28_6,PaJ28_28,PaJ28_21,PaJ28_26] rfl _ _ rfl rfl rfl rfl rfl) (eq28g VL28_6 VJ28_28 VJ28_21 VJ28_26 A)
noncomputable def RL28_6(L28_6:YL28_6)(J28_28:YJ28_28)(J28_21:YJ28_21)(J28_26:YJ28_26)(s0:ByteArray)(ends6:Bool)(at7:Int)(A:Bool)(B:List T) :Option Res:=
(bif (decide (at7<(s0.size:Int))) then
 needC (decide (0≤at7) &&decide (at7<(s0.size:Int))) fun _=>callK (vr 64 0 [.t (.int .u8 (((s0:ByteArray)[(at7).toNat]!).toNat:Int))] ⟨[],[]⟩) fun a b=>asT a fun c=>asI .i64 c fun a=>endB b <|
(bif (decide (a=5)) then
 L28_6 (s0) ((decide (0<(B.length:Int)))) ((IntKind.i64.wrap (at7+1))) (A) (B)
else
(bif (decide (a=4)) then
 L28_6 (s0) (ends6) ((IntKind.i64.wrap (at7+1))) (A) (B)
else
(bif (decide (a=6)) then
 subS s0 (some at7) none fun b=>callK (vr 65 0 [.t (.str b), .t (.int .u8 10)] ⟨[],[]⟩) fun c d=>asT c fun b=>asI .i64 b fun c=>endB d <|
(bif (decide (c<0)) then
 J28_28 (s0) (A) (B)
else
 L28_6 (s0) (ends6) ((IntKind.i64.wrap (at7+c))) (A) (B))
else
(bif (decide (a=1)) then
 subS s0 (some at7) none fun b=>callK (vr 66 0 [.t (.str b)] ⟨[],[]⟩) fun c d=>asT c fun b=>asI .i64 b fun c=>endB d <| J28_21 (s0) (ends6) (at7) (c) (A) (B)
else
(bif (decide (a=2)) then
 subS s0 (some at7) none fun a=>callK (vr 66 0 [.t (.str a)] ⟨[],[]⟩) fun b c=>asT b fun a=>asI .i64 a fun b=>endB c <| J28_21 (s0) (ends6) (at7) (b) (A) (B)
else
 J28_21 (s0) (ends6) (at7) (1) (A) (B))))))
else
 J28_28 (s0) (A) (B))
theorem L28_6g(KL28_6 KJ28_28 KJ28_21 KJ28_26:Env→St→Option Res)(s0:ByteArray)(ends6:Bool)(at7:Int)(A:Bool)(B:List T) :WL28_6 (fun e st=>gP 28 0 82 Try.f28 (Ta28 KL28_6 KJ28_28 KJ28_21 KJ28_26) (.lp::PaL28_6) e st) s0 ends6 at7 A B=RL28_6 (WL28_6 KL28_6) (WJ28_28 KJ28_28) (WJ28_21 KJ28_21) (WJ28_26 KJ28_26) s0 ends6 at7 A B:=by kernel_rfl
theorem L28_6_eq(s0:ByteArray)(ends6:Bool)(at7:Int)(A:Bool)(B:List T) :L28_6 s0 ends6 at7 A B=RL28_6 L28_6 J28_28 J28_21 J28_26 s0 ends6 at7 A B:=
 (congrArg (fun k=>WL28_6 k s0 ends6 at7 A B) (funext fun e=>funext fun st=>round_eq Try.prog hint (b:=(nav (List.reverse (.lp::PaL28_6)) (bodyOf Try.f28))) (fn:=Try.f28) (nt:=82) (T:=(Ta28 VL28_6 VJ28_28 VJ28_21 VJ28_26)) [PaL28_6,PaJ28_28,PaJ28_21,PaJ28_26] rfl PaL28_6 e st rfl rfl rfl)).trans (L28_6g VL28_6 VJ28_28 VJ28_21 VJ28_26 s0 ends6 at7 A B)
noncomputable def RJ28_28(L28_6:YL28_6)(J28_28:YJ28_28)(J28_21:YJ28_21)(J28_26:YJ28_26)(s0:ByteArray)(A:Bool)(B:List T) :Option Res:=
(bif (decide (4096<(B.length:Int))) then
 some ((.tup [.t (.list 3 false []), .t (.int .i64 0), .t (.int .i64 2)]),⟨[],[]⟩)
else
 some ((.tup [.t (.list 3 A B), .t (.int .i64 (s0.size:Int)), .t (.int .i64 0)]),⟨[],[]⟩))
theorem J28_28g(KL28_6 KJ28_28 KJ28_21 KJ28_26:Env→St→Option Res)(s0:ByteArray)(A:Bool)(B:List T) :WJ28_28 (fun e st=>gP 28 0 82 Try.f28 (Ta28 KL28_6 KJ28_28 KJ28_21 KJ28_26) PaJ28_28 e st) s0 A B=RJ28_28 (WL28_6 KL28_6) (WJ28_28 KJ28_28) (WJ28_21 KJ28_21) (WJ28_26 KJ28_26) s0 A B:=by kernel_rfl
theorem J28_28_eq(s0:ByteArray)(A:Bool)(B:List T) :J28_28 s0 A B=RJ28_28 L28_6 J28_28 J28_21 J28_26 s0 A B:=
 (congrArg (fun k=>WJ28_28 k s0 A B) (funext fun e=>funext fun st=>join_eq Try.prog hint (fn:=Try.f28) (nt:=82) (T:=(Ta28 VL28_6 VJ28_28 VJ28_21 VJ28_26)) [PaL28_6,PaJ28_28,PaJ28_21,PaJ28_26] rfl PaJ28_28 e st rfl)).trans (J28_28g VL28_6 VJ28_28 VJ28_21 VJ28_26 s0 A B)
noncomputable def RJ28_21(L28_6:YL28_6)(J28_28:YJ28_28)(J28_21:YJ28_21)(J28_26:YJ28_26)(s0:ByteArray)(ends6:Bool)(at7 n8:Int)(A:Bool)(B:List T) :Option Res:=subS s0 (some at7) (some (IntKind.i64.wrap (at7+n8))) fun a=>callK (vr 67 0 [.t (.str a)] ⟨[],[]⟩) fun b c=>asTup b fun a=>consV a fun b d=>asT b fun a=>asA a fun b=>consT b fun a f=>asI .i64 a fun b=>consT f fun a g=>asS a fun f=>consT g fun a h=>asI .i64 a fun g=>endT h <| consV d fun a h=>asT a fun d=>asB d fun a=>endV h <| endB c <|
(bif (!a) then
 some ((.tup [.t (.list 3 false []), .t (.int .i64 at7), .t (.int .i64 6)]),⟨[],[]⟩)
else
(bif ends6 then
 needC (decide ((B.length+1)*(32+1)≤70368744177664) &&decide (32≤1048576)) fun _=>J28_26 (s0) (at7) (n8) ((A || true)) ((B++([.agg [.int .i64 4, .str ByteArray.empty, .int .i64 0]]:List T))) (b) (f) (g)
else
 J28_26 (s0) (at7) (n8) (A) (B) (b) (f) (g)))
theorem J28_21g(KL28_6 KJ28_28 KJ28_21 KJ28_26:Env→St→Option Res)(s0:ByteArray)(ends6:Bool)(at7 n8:Int)(A:Bool)(B:List T) :WJ28_21 (fun e st=>gP 28 0 82 Try.f28 (Ta28 KL28_6 KJ28_28 KJ28_21 KJ28_26) PaJ28_21 e st) s0 ends6 at7 n8 A B=RJ28_21 (WL28_6 KL28_6) (WJ28_28 KJ28_28) (WJ28_21 KJ28_21) (WJ28_26 KJ28_26) s0 ends6 at7 n8 A B:=by kernel_rfl
theorem J28_21_eq(s0:ByteArray)(ends6:Bool)(at7 n8:Int)(A:Bool)(B:List T) :J28_21 s0 ends6 at7 n8 A B=RJ28_21 L28_6 J28_28 J28_21 J28_26 s0 ends6 at7 n8 A B:=
 (congrArg (fun k=>WJ28_21 k s0 ends6 at7 n8 A B) (funext fun e=>funext fun st=>join_eq Try.prog hint (fn:=Try.f28) (nt:=82) (T:=(Ta28 VL28_6 VJ28_28 VJ28_21 VJ28_26)) [PaL28_6,PaJ28_28,PaJ28_21,PaJ28_26] rfl PaJ28_21 e st rfl)).trans (J28_21g VL28_6 VJ28_28 VJ28_21 VJ28_26 s0 ends6 at7 n8 A B)
noncomputable def RJ28_26(L28_6:YL28_6)(J28_28:YJ28_28)(J28_21:YJ28_21)(J28_26:YJ28_26)(s0:ByteArray)(at7 n8:Int)(A:Bool)(B:List T)(C:Int)(D:ByteArray)(E:Int) :Option Res:=needC (decide ((B.length+1)*(32+1)≤70368744177664) &&decide (32≤1048576)) fun _=>L28_6 (s0) (false) ((IntKind.i64.wrap (at7+n8))) ((A || true)) ((B++([.agg [.int .i64 C, .str D, .int .i64 E]]:List T)))
theorem J28_26g(KL28_6 KJ28_28 KJ28_21 KJ28_26:Env→St→Option Res)(s0:ByteArray)(at7 n8:Int)(A:Bool)(B:List T)(C:Int)(D:ByteArray)(E:Int) :WJ28_26 (fun e st=>gP 28 0 82 Try.f28 (Ta28 KL28_6 KJ28_28 KJ28_21 KJ28_26) PaJ28_26 e st) s0 at7 n8 A B C D E=RJ28_26 (WL28_6 KL28_6) (WJ28_28 KJ28_28) (WJ28_21 KJ28_21) (WJ28_26 KJ28_26) s0 at7 n8 A B C D E:=by kernel_rfl
theorem J28_26_eq(s0:ByteArray)(at7 n8:Int)(A:Bool)(B:List T)(C:Int)(D:ByteArray)(E:Int) :J28_26 s0 at7 n8 A B C D E=RJ28_26 L28_6 J28_28 J28_21 J28_26 s0 at7 n8 A B C D E:=
 (congrArg (fun k=>WJ28_26 k s0 at7 n8 A B C D E) (funext fun e=>funext fun st=>join_eq Try.prog hint (fn:=Try.f28) (nt:=82) (T:=(Ta28 VL28_6 VJ28_28 VJ28_21 VJ28_26)) [PaL28_6,PaJ28_28,PaJ28_21,PaJ28_26] rfl PaJ28_26 e st rfl)).trans (J28_26g VL28_6 VJ28_28 VJ28_21 VJ28_26 s0 at7 n8 A B C D E)
noncomputable def R69(A:Int)(B:ByteArray)(C:Int) :Option Res:=some ((.t (.bool (decide (A=4)))),⟨[],[]⟩)
theorem eq69g(A:Int)(B:ByteArray)(C:Int) :gE 69 0 6 Try.f69 [] [.t (.agg [.int .i64 A, .str B, .int .i64 C])] ⟨[],[]⟩=R69 A B C:=by kernel_rfl
theorem eq69(A:Int)(B:ByteArray)(C:Int) :vr 69 0 [.t (.agg [.int .i64 A, .str B, .int .i64 C])] ⟨[],[]⟩=R69 A B C:=
 Eq.trans (call_eq Try.prog hint (fn:=Try.f69) (nt:=6) (T:=[]) [] rfl _ _ rfl rfl rfl rfl rfl) (eq69g A B C)
noncomputable def R68(L68_2:YL68_2)(A:Bool)(B:List T) :Option Res:=L68_2 (A) (B) ((B.length:Int)) (0)
theorem eq68g(KL68_2:Env→St→Option Res)(A:Bool)(B:List T) :gE 68 0 19 Try.f68 (Ta68 KL68_2) [.t (.list 3 A B), .fn 69 [] []] ⟨[],[]⟩=R68 (WL68_2 KL68_2) A B:=by kernel_rfl
theorem eq68(A:Bool)(B:List T) :vr 68 0 [.t (.list 3 A B), .fn 69 [] []] ⟨[],[]⟩=R68 L68_2 A B:=
 Eq.trans (call_eq Try.prog hint (fn:=Try.f68) (nt:=19) (T:=(Ta68 VL68_2)) [PaL68_2] rfl _ _ rfl rfl rfl rfl rfl) (eq68g VL68_2 A B)
noncomputable def RL68_2(L68_2:YL68_2)(s0z:Bool)(s0:List T)(A B:Int) :Option Res:=
(bif (decide (B<A)) then
 needC (decide (0≤B)) fun _=>getT s0 (B).toNat fun a=>asA a fun b=>consT b fun a c=>asI .i64 a fun b=>consT c fun a d=>asS a fun c=>consT d fun a f=>asI .i64 a fun d=>endT f <| callK (vr 69 0 [.t (.agg [.int .i64 b, .str c, .int .i64 d])] ⟨[],[]⟩) fun a f=>asT a fun b=>asB b fun a=>endB f <|
(bif a then
 some ((.t (.int .i64 B)),⟨[],[]⟩)
else
 L68_2 (s0z) (s0) (A) ((IntKind.i64.wrap (B+1))))
else
 some ((.t (.int .i64 (-1))),⟨[],[]⟩))
theorem L68_2g(KL68_2:Env→St→Option Res)(s0z:Bool)(s0:List T)(A B:Int) :WL68_2 (fun e st=>gP 68 0 19 Try.f68 (Ta68 KL68_2) (.lp::PaL68_2) e st) s0z s0 A B=RL68_2 (WL68_2 KL68_2) s0z s0 A B:=by kernel_rfl
theorem L68_2_eq(s0z:Bool)(s0:List T)(A B:Int) :L68_2 s0z s0 A B=RL68_2 L68_2 s0z s0 A B:=
 (congrArg (fun k=>WL68_2 k s0z s0 A B) (funext fun e=>funext fun st=>round_eq Try.prog hint (b:=(nav (List.reverse (.lp::PaL68_2)) (bodyOf Try.f68))) (fn:=Try.f68) (nt:=19) (T:=(Ta68 VL68_2)) [PaL68_2] rfl PaL68_2 e st rfl rfl rfl)).trans (L68_2g VL68_2 s0z s0 A B)
noncomputable def R70(A:Bool)(B:List T) :Option Res:=
(bif (!A) then
 some ((.t (.list 3 false [])),⟨[],[]⟩)
else
 needC (decide ((0+B.length)*(32+1)≤70368744177664) &&decide (32≤1048576)) fun _=>some ((.t (.list 3 true (([]:List T)++B))),⟨[],[]⟩))
theorem eq70g(A:Bool)(B:List T) :gE 70 0 8 Try.f70 [] [.t (.list 3 A B)] ⟨[],[]⟩=R70 A B:=by kernel_rfl
theorem eq70(A:Bool)(B:List T) :vr 70 0 [.t (.list 3 A B)] ⟨[],[]⟩=R70 A B:=
 Eq.trans (call_eq Try.prog hint (fn:=Try.f70) (nt:=8) (T:=[]) [] rfl _ _ rfl rfl rfl rfl rfl) (eq70g A B)
noncomputable def R30(L30_2:YL30_2)(A:Bool)(B:List T) :Option Res:=L30_2 (A) (B) (false) ([])
theorem eq30g(KL30_2:Env→St→Option Res)(A:Bool)(B:List T) :gE 30 0 35 Try.f30 (Ta30 KL30_2) [.t (.list 3 A B)] ⟨[],[]⟩=R30 (WL30_2 KL30_2) A B:=by kernel_rfl
theorem eq30(A:Bool)(B:List T) :vr 30 0 [.t (.list 3 A B)] ⟨[],[]⟩=R30 L30_2 A B:=
 Eq.trans (call_eq Try.prog hint (fn:=Try.f30) (nt:=35) (T:=(Ta30 VL30_2)) [PaL30_2] rfl _ _ rfl rfl rfl rfl rfl) (eq30g VL30_2 A B)
noncomputable def RL30_2(L30_2:YL30_2)(l0z:Bool)(l0:List T)(A:Bool)(B:List T) :Option Res:=
(bif (decide (0<(l0.length:Int))) then
 callK (vr 68 0 [.t (.list 3 l0z l0), .fn 69 [] []] ⟨[],[]⟩) fun a b=>asT a fun c=>asI .i64 c fun a=>endB b <|
(bif (decide (a<0)) then
 callK (vr 70 0 [.t (.list 3 l0z l0)] ⟨[],[]⟩) fun b c=>asT b fun d=>asL 3 d fun b f=>endB c <| needC (decide ((B.length+1)*(24+1)≤70368744177664) &&decide (24≤1048576)) fun _=>some ((.t (.list 1 (A || true) (B++([.list 3 b f]:List T)))),⟨[],[]⟩)
else
 cutL l0 none (some a) fun b=>callK (vr 70 0 [.t (.list 3 l0z b)] ⟨[],[]⟩) fun c d=>asT c fun b=>asL 3 b fun c f=>endB d <| needC (decide ((B.length+1)*(24+1)≤70368744177664) &&decide (24≤1048576)) fun _=>cutL l0 (some (IntKind.i64.wrap (a+1))) none fun b=>
(bif (decide ((b.length:Int)=0)) then
 needC (decide ((((B++([.list 3 c f]:List T))).length+1)*(24+1)≤70368744177664) &&decide (24≤1048576)) fun _=>L30_2 (l0z) (b) (((A || true) || true)) (((B++([.list 3 c f]:List T))++([.list 3 false []]:List T)))
else
 L30_2 (l0z) (b) ((A || true)) ((B++([.list 3 c f]:List T)))))
else
 some ((.t (.list 1 A B)),⟨[],[]⟩))
theorem L30_2g(KL30_2:Env→St→Option Res)(l0z:Bool)(l0:List T)(A:Bool)(B:List T) :WL30_2 (fun e st=>gP 30 0 35 Try.f30 (Ta30 KL30_2) (.lp::PaL30_2) e st) l0z l0 A B=RL30_2 (WL30_2 KL30_2) l0z l0 A B:=by kernel_rfl
theorem L30_2_eq(l0z:Bool)(l0:List T)(A:Bool)(B:List T) :L30_2 l0z l0 A B=RL30_2 L30_2 l0z l0 A B:=
 (congrArg (fun k=>WL30_2 k l0z l0 A B) (funext fun e=>funext fun st=>round_eq Try.prog hint (b:=(nav (List.reverse (.lp::PaL30_2)) (bodyOf Try.f30))) (fn:=Try.f30) (nt:=35) (T:=(Ta30 VL30_2)) [PaL30_2] rfl PaL30_2 e st rfl rfl rfl)).trans (L30_2g VL30_2 l0z l0 A B)
noncomputable def R71(A:Bool)(B:List T)(C:Bool) :Option Res:=
(bif (decide (0<(B.length:Int))) then
 needC (decide (0≤0)) fun _=>getT B ((0:Int)).toNat fun a=>D_isi a fun b c d=>some ((.t (.agg [.int .i64 b, .str c, .int .i64 d])),(Z2 A B C))
else
 some ((.t (.agg [.int .i64 0, .str ByteArray.empty, .int .i64 0])),(Z2 A B C)))
theorem eq71g(A:Bool)(B:List T)(C:Bool) :gE 71 0 16 Try.f71 [] [.ptr 0 0 0] ⟨[(0, .var [.t (.list 3 A B), .t (.bool C)])],[]⟩=R71 A B C:=by kernel_rfl
theorem eq71(A:Bool)(B:List T)(C:Bool) :vr 71 0 [.ptr 0 0 0] ⟨[(0, .var [.t (.list 3 A B), .t (.bool C)])],[]⟩=R71 A B C:=
 Eq.trans (call_eq Try.prog hint (fn:=Try.f71) (nt:=16) (T:=[]) [] rfl _ _ rfl rfl rfl rfl rfl) (eq71g A B C)
noncomputable def R31(A:ByteArray)(B:Bool)(C:List T)(D:Bool) :Option Res:=callK (vr 71 0 [.ptr 0 0 0] (Z3 B C D)) fun a b=>asT a fun c=>D_isi c fun a d f=>consB 0 b fun c f=>W_l3b c fun b g h=>endB f <|
(bif (!h) then
(bif (decide ((d:ByteArray)=A)) then
(bif (decide (a=3)) then
 some ((.t (.bool true)),(Z2 b g h))
else
 some ((.t (.bool (decide (a=1)))),(Z2 b g h)))
else
 some ((.t (.bool false)),(Z2 b g h)))
else
 some ((.t (.bool false)),(Z2 b g h)))
theorem eq31g(A:ByteArray)(B:Bool)(C:List T)(D:Bool) :gE 31 0 31 Try.f31 [] [.ptr 0 0 0, .t (.str A)] ⟨[(0, .var [.t (.list 3 B C), .t (.bool D)])],[]⟩=R31 A B C D:=by kernel_rfl
theorem eq31(A:ByteArray)(B:Bool)(C:List T)(D:Bool) :vr 31 0 [.ptr 0 0 0, .t (.str A)] ⟨[(0, .var [.t (.list 3 B C), .t (.bool D)])],[]⟩=R31 A B C D:=
 Eq.trans (call_eq Try.prog hint (fn:=Try.f31) (nt:=31) (T:=[]) [] rfl _ _ rfl rfl rfl rfl rfl) (eq31g A B C D)
noncomputable def R106(A:ByteArray)(B:Bool)(C:List T)(D:Bool) :Option Res:=callK (vr 31 0 [.ptr 0 0 0, .t (.str A)] (Z3 B C D)) fun a b=>asT a fun c=>asB c fun a=>consB 0 b fun c d=>W_l3b c fun b f g=>endB d <|
(bif a then
 cutL f (some 1) none fun c=>some ((.t (.bool a)),(Z2 b c g))
else
 some ((.t (.bool a)),(Z2 b f g)))
theorem eq106g(A:ByteArray)(B:Bool)(C:List T)(D:Bool) :gE 106 0 21 Try.f106 [] [.ptr 0 0 0, .t (.str A)] ⟨[(0, .var [.t (.list 3 B C), .t (.bool D)])],[]⟩=R106 A B C D:=by kernel_rfl
theorem eq106(A:ByteArray)(B:Bool)(C:List T)(D:Bool) :vr 106 0 [.ptr 0 0 0, .t (.str A)] ⟨[(0, .var [.t (.list 3 B C), .t (.bool D)])],[]⟩=R106 A B C D:=
 Eq.trans (call_eq Try.prog hint (fn:=Try.f106) (nt:=21) (T:=[]) [] rfl _ _ rfl rfl rfl rfl rfl) (eq106g A B C D)
noncomputable def R72(A:ByteArray)(B:Bool)(C:List T)(D:Bool) :Option Res:=callK (vr 106 0 [.ptr 0 0 0, .t (.str A)] (Z3 B C D)) fun a b=>asT a fun c=>asB c fun a=>consB 0 b fun c d=>W_l3b c fun b f g=>endB d <|
(bif (!a) then
 some ((.tup []),⟨[(0, .var [.t (.list 3 b f), .t (.bool true)])],[500]⟩)
else
 some ((.tup []),(Z2 b f g)))
theorem eq72g(A:ByteArray)(B:Bool)(C:List T)(D:Bool) :gE 72 0 11 Try.f72 [] [.ptr 0 0 0, .t (.str A)] ⟨[(0, .var [.t (.list 3 B C), .t (.bool D)])],[]⟩=R72 A B C D:=by kernel_rfl
theorem eq72(A:ByteArray)(B:Bool)(C:List T)(D:Bool) :vr 72 0 [.ptr 0 0 0, .t (.str A)] ⟨[(0, .var [.t (.list 3 B C), .t (.bool D)])],[]⟩=R72 A B C D:=
 Eq.trans (call_eq Try.prog hint (fn:=Try.f72) (nt:=11) (T:=[]) [] rfl _ _ rfl rfl rfl rfl rfl) (eq72g A B C D)
noncomputable def R76(A:Int)(B:Bool)(C:List T)(D:Bool) :Option Res:=callK (vr 71 0 [.ptr 0 0 0] (Z3 B C D)) fun a b=>asT a fun c=>D_isi c fun a d f=>consB 0 b fun c g=>W_l3b c fun b h i=>endB g <|
(bif i then
 some ((.t (.agg [.int .i64 0, .str ByteArray.empty, .int .i64 0])),⟨[(0, .var [.t (.list 3 b h), .t (.bool true)])],[500]⟩)
else
(bif (!decide (a=A)) then
 some ((.t (.agg [.int .i64 0, .str ByteArray.empty, .int .i64 0])),⟨[(0, .var [.t (.list 3 b h), .t (.bool true)])],[500]⟩)
else
 cutL h (some 1) none fun c=>some ((.t (.agg [.int .i64 a, .str d, .int .i64 f])),(Z2 b c i))))
theorem eq76g(A:Int)(B:Bool)(C:List T)(D:Bool) :gE 76 0 35 Try.f76 [] [.ptr 0 0 0, .t (.int .i64 A)] ⟨[(0, .var [.t (.list 3 B C), .t (.bool D)])],[]⟩=R76 A B C D:=by kernel_rfl
theorem eq76(A:Int)(B:Bool)(C:List T)(D:Bool) :vr 76 0 [.ptr 0 0 0, .t (.int .i64 A)] ⟨[(0, .var [.t (.list 3 B C), .t (.bool D)])],[]⟩=R76 A B C D:=
 Eq.trans (call_eq Try.prog hint (fn:=Try.f76) (nt:=35) (T:=[]) [] rfl _ _ rfl rfl rfl rfl rfl) (eq76g A B C D)
noncomputable def R49(A:ByteArray) :Option Res:=callK (vr 51 0 [.t (.str A)] ⟨[],[]⟩) fun a b=>asT a fun c=>asB c fun a=>endB b <|
(bif a then
(bif (!decide ((A:ByteArray)=⟨#[115,117,109]⟩)) then
 some ((.t (.bool (!decide ((A:ByteArray)=⟨#[116,101,110,115,111,114]⟩)))),⟨[],[]⟩)
else
 some ((.t (.bool false)),⟨[],[]⟩))
else
 some ((.t (.bool false)),⟨[],[]⟩))
theorem eq49g(A:ByteArray) :gE 49 0 13 Try.f49 [] [.t (.str A)] ⟨[],[]⟩=R49 A:=by kernel_rfl
theorem eq49(A:ByteArray) :vr 49 0 [.t (.str A)] ⟨[],[]⟩=R49 A:=
 Eq.trans (call_eq Try.prog hint (fn:=Try.f49) (nt:=13) (T:=[]) [] rfl _ _ rfl rfl rfl rfl rfl) (eq49g A)
noncomputable def R73(A:Bool)(B:List T)(C:Bool) :Option Res:=callK (vr 76 0 [.ptr 0 0 0, .t (.int .i64 1)] (Z3 A B C)) fun a b=>asT a fun c=>D_isi c fun a d f=>consB 0 b fun a c=>W_l3b a fun b f g=>endB c <| callK (vr 49 0 [.t (.str d)] ⟨[],[]⟩) fun a c=>asT a fun h=>asB h fun a=>endB c <|
(bif (!a) then
 some ((.t (.str d)),⟨[(0, .var [.t (.list 3 b f), .t (.bool true)])],[500]⟩)
else
 some ((.t (.str d)),(Z2 b f g)))
theorem eq73g(A:Bool)(B:List T)(C:Bool) :gE 73 0 14 Try.f73 [] [.ptr 0 0 0] ⟨[(0, .var [.t (.list 3 A B), .t (.bool C)])],[]⟩=R73 A B C:=by kernel_rfl
theorem eq73(A:Bool)(B:List T)(C:Bool) :vr 73 0 [.ptr 0 0 0] ⟨[(0, .var [.t (.list 3 A B), .t (.bool C)])],[]⟩=R73 A B C:=
 Eq.trans (call_eq Try.prog hint (fn:=Try.f73) (nt:=14) (T:=[]) [] rfl _ _ rfl rfl rfl rfl rfl) (eq73g A B C)
noncomputable def R75(A:Bool)(B:List T)(C:Bool) :Option Res:=callK (vr 76 0 [.ptr 0 0 0, .t (.int .i64 2)] (Z3 A B C)) fun a b=>asT a fun c=>D_isi c fun a d f=>consB 0 b fun a c=>W_l3b a fun b d g=>endB c <| some ((.t (.int .i64 f)),(Z2 b d g))
theorem eq75g(A:Bool)(B:List T)(C:Bool) :gE 75 0 6 Try.f75 [] [.ptr 0 0 0] ⟨[(0, .var [.t (.list 3 A B), .t (.bool C)])],[]⟩=R75 A B C:=by kernel_rfl
theorem eq75(A:Bool)(B:List T)(C:Bool) :vr 75 0 [.ptr 0 0 0] ⟨[(0, .var [.t (.list 3 A B), .t (.bool C)])],[]⟩=R75 A B C:=
 Eq.trans (call_eq Try.prog hint (fn:=Try.f75) (nt:=6) (T:=[]) [] rfl _ _ rfl rfl rfl rfl rfl) (eq75g A B C)
noncomputable def R74(L74_5:YL74_5)(A:Bool)(B:List T)(C:Bool) :Option Res:=callK (vr 72 0 [.ptr 0 0 0, .t (.str ⟨#[91]⟩)] (Z3 A B C)) fun a b=>asTup a fun c=>endV c <| consB 0 b fun a c=>W_l3b a fun b d f=>endB c <| callK (vr 106 0 [.ptr 0 0 0, .t (.str ⟨#[93]⟩)] (Z3 b d f)) fun a c=>asT a fun b=>asB b fun a=>consB 0 c fun b d=>W_l3b b fun c f g=>endB d <|
(bif a then
 some ((.t (.list 1 false [])),(Z2 c f g))
else
 L74_5 (true) (c) (f) (g) (false) ([]))
theorem eq74g(KL74_5:Env→St→Option Res)(A:Bool)(B:List T)(C:Bool) :gE 74 0 28 Try.f74 (Ta74 KL74_5) [.ptr 0 0 0, .fn 75 [.ptr 0 0 0] []] ⟨[(0, .var [.t (.list 3 A B), .t (.bool C)])],[]⟩=R74 (WL74_5 KL74_5) A B C:=by kernel_rfl
theorem eq74(A:Bool)(B:List T)(C:Bool) :vr 74 0 [.ptr 0 0 0, .fn 75 [.ptr 0 0 0] []] ⟨[(0, .var [.t (.list 3 A B), .t (.bool C)])],[]⟩=R74 L74_5 A B C:=
 Eq.trans (call_eq Try.prog hint (fn:=Try.f74) (nt:=28) (T:=(Ta74 VL74_5)) [PaL74_5] rfl _ _ rfl rfl rfl rfl rfl) (eq74g VL74_5 A B C)
noncomputable def RL74_5(L74_5:YL74_5)(ok5 A:Bool)(B:List T)(C D:Bool)(E:List T) :Option Res:=
(bif ok5 then
(bif (!C) then
 callK (vr 75 0 [.ptr 0 0 0] (Z3 A B C)) fun a b=>asT a fun c=>asI .i64 c fun a=>consB 0 b fun c d=>W_l3b c fun b f g=>endB d <| needC (decide ((E.length+1)*(8+1)≤70368744177664) &&decide (8≤1048576)) fun _=>callK (vr 106 0 [.ptr 0 0 0, .t (.str ⟨#[44]⟩)] (Z3 b f g)) fun c d=>asT c fun b=>asB b fun c=>consB 0 d fun b f=>W_l3b b fun d g h=>endB f <| L74_5 (c) (d) (g) (h) ((D || true)) ((E++([.int .i64 a]:List T)))
else
 callK (vr 72 0 [.ptr 0 0 0, .t (.str ⟨#[93]⟩)] (Z3 A B C)) fun a b=>asTup a fun c=>endV c <| consB 0 b fun a c=>W_l3b a fun b d f=>endB c <| some ((.t (.list 1 D E)),(Z2 b d f)))
else
 callK (vr 72 0 [.ptr 0 0 0, .t (.str ⟨#[93]⟩)] (Z3 A B C)) fun a b=>asTup a fun c=>endV c <| consB 0 b fun a c=>W_l3b a fun b d f=>endB c <| some ((.t (.list 1 D E)),(Z2 b d f)))
theorem L74_5g(KL74_5:Env→St→Option Res)(ok5 A:Bool)(B:List T)(C D:Bool)(E:List T) :WL74_5 (fun e st=>gP 74 0 28 Try.f74 (Ta74 KL74_5) (.lp::PaL74_5) e st) ok5 A B C D E=RL74_5 (WL74_5 KL74_5) ok5 A B C D E:=by kernel_rfl
theorem L74_5_eq(ok5 A:Bool)(B:List T)(C D:Bool)(E:List T) :L74_5 ok5 A B C D E=RL74_5 L74_5 ok5 A B C D E:=
 (congrArg (fun k=>WL74_5 k ok5 A B C D E) (funext fun e=>funext fun st=>round_eq Try.prog hint (b:=(nav (List.reverse (.lp::PaL74_5)) (bodyOf Try.f74))) (fn:=Try.f74) (nt:=28) (T:=(Ta74 VL74_5)) [PaL74_5] rfl PaL74_5 e st rfl rfl rfl)).trans (L74_5g VL74_5 ok5 A B C D E)
noncomputable def R32(A:Bool)(B:List T)(C:Bool) :Option Res:=callK (vr 72 0 [.ptr 0 0 0, .t (.str ⟨#[116,101,110,115,111,114]⟩)] (Z3 A B C)) fun a b=>asTup a fun c=>endV c <| consB 0 b fun a c=>W_l3b a fun b d f=>endB c <| callK (vr 73 0 [.ptr 0 0 0] (Z3 b d f)) fun a c=>asT a fun b=>asS b fun a=>consB 0 c fun b d=>W_l3b b fun c f g=>endB d <| callK (vr 74 0 [.ptr 0 0 0, .fn 75 [.ptr 0 0 0] []] (Z3 c f g)) fun b d=>asT b fun c=>asL 1 c fun b f=>consB 0 d fun c g=>W_l3b c fun d h i=>endB g <| callK (vr 72 0 [.ptr 0 0 0, .t (.str ⟨#[58]⟩)] (Z3 d h i)) fun c g=>
 asTup c fun d=>endV d <| consB 0 g fun c d=>W_l3b c fun g h i=>endB d <| callK (vr 76 0 [.ptr 0 0 0, .t (.int .i64 1)] (Z3 g h i)) fun c d=>asT c fun g=>D_isi g fun c h i=>consB 0 d fun c g=>W_l3b c fun d i j=>endB g <| callK (vr 71 0 [.ptr 0 0 0] (Z3 d i j)) fun c g=>asT c fun d=>D_isi d fun c i j=>consB 0 g fun d i=>W_l3b d fun g j k=>endB i <|
(bif (decide (c=2)) then
 callK (vr 75 0 [.ptr 0 0 0] (Z3 g j k)) fun c d=>asT c fun i=>asI .i64 i fun c=>consB 0 d fun i l=>W_l3b i fun d m n=>endB l <| some ((.t (.agg [.str a, .list 1 b f, .str h, .int .i64 c])),(Z2 d m n))
else
 some ((.t (.agg [.str a, .list 1 b f, .str h, .int .i64 0])),(Z2 g j k)))
theorem eq32g(A:Bool)(B:List T)(C:Bool) :gE 32 0 29 Try.f32 [] [.ptr 0 0 0] ⟨[(0, .var [.t (.list 3 A B), .t (.bool C)])],[]⟩=R32 A B C:=by kernel_rfl
theorem eq32(A:Bool)(B:List T)(C:Bool) :vr 32 0 [.ptr 0 0 0] ⟨[(0, .var [.t (.list 3 A B), .t (.bool C)])],[]⟩=R32 A B C:=
 Eq.trans (call_eq Try.prog hint (fn:=Try.f32) (nt:=29) (T:=[]) [] rfl _ _ rfl rfl rfl rfl rfl) (eq32g A B C)
noncomputable def R77(L77_5:YL77_5)(A:Bool)(B:List T)(C:Bool) :Option Res:=callK (vr 72 0 [.ptr 0 0 0, .t (.str ⟨#[91]⟩)] (Z3 A B C)) fun a b=>asTup a fun c=>endV c <| consB 0 b fun a c=>W_l3b a fun b d f=>endB c <| callK (vr 106 0 [.ptr 0 0 0, .t (.str ⟨#[93]⟩)] (Z3 b d f)) fun a c=>asT a fun b=>asB b fun a=>consB 0 c fun b d=>W_l3b b fun c f g=>endB d <|
(bif a then
 some ((.t (.list 1 false [])),(Z2 c f g))
else
 L77_5 (true) (c) (f) (g) (false) ([]))
theorem eq77g(KL77_5:Env→St→Option Res)(A:Bool)(B:List T)(C:Bool) :gE 77 0 28 Try.f77 (Ta77 KL77_5) [.ptr 0 0 0, .fn 73 [.ptr 0 0 0] []] ⟨[(0, .var [.t (.list 3 A B), .t (.bool C)])],[]⟩=R77 (WL77_5 KL77_5) A B C:=by kernel_rfl
theorem eq77(A:Bool)(B:List T)(C:Bool) :vr 77 0 [.ptr 0 0 0, .fn 73 [.ptr 0 0 0] []] ⟨[(0, .var [.t (.list 3 A B), .t (.bool C)])],[]⟩=R77 L77_5 A B C:=
 Eq.trans (call_eq Try.prog hint (fn:=Try.f77) (nt:=28) (T:=(Ta77 VL77_5)) [PaL77_5] rfl _ _ rfl rfl rfl rfl rfl) (eq77g VL77_5 A B C)
noncomputable def RL77_5(L77_5:YL77_5)(ok5 A:Bool)(B:List T)(C D:Bool)(E:List T) :Option Res:=
(bif ok5 then
(bif (!C) then
 callK (vr 73 0 [.ptr 0 0 0] (Z3 A B C)) fun a b=>asT a fun c=>asS c fun a=>consB 0 b fun c d=>W_l3b c fun b f g=>endB d <| needC (decide ((E.length+1)*(16+1)≤70368744177664) &&decide (16≤1048576)) fun _=>callK (vr 106 0 [.ptr 0 0 0, .t (.str ⟨#[44]⟩)] (Z3 b f g)) fun c d=>asT c fun b=>asB b fun c=>consB 0 d fun b f=>W_l3b b fun d g h=>endB f <| L77_5 (c) (d) (g) (h) ((D || true)) ((E++([.str a]:List T)))
else
 callK (vr 72 0 [.ptr 0 0 0, .t (.str ⟨#[93]⟩)] (Z3 A B C)) fun a b=>asTup a fun c=>endV c <| consB 0 b fun a c=>W_l3b a fun b d f=>endB c <| some ((.t (.list 1 D E)),(Z2 b d f)))
else
 callK (vr 72 0 [.ptr 0 0 0, .t (.str ⟨#[93]⟩)] (Z3 A B C)) fun a b=>asTup a fun c=>endV c <| consB 0 b fun a c=>W_l3b a fun b d f=>endB c <| some ((.t (.list 1 D E)),(Z2 b d f)))
theorem L77_5g(KL77_5:Env→St→Option Res)(ok5 A:Bool)(B:List T)(C D:Bool)(E:List T) :WL77_5 (fun e st=>gP 77 0 28 Try.f77 (Ta77 KL77_5) (.lp::PaL77_5) e st) ok5 A B C D E=RL77_5 (WL77_5 KL77_5) ok5 A B C D E:=by kernel_rfl
theorem L77_5_eq(ok5 A:Bool)(B:List T)(C D:Bool)(E:List T) :L77_5 ok5 A B C D E=RL77_5 L77_5 ok5 A B C D E:=
 (congrArg (fun k=>WL77_5 k ok5 A B C D E) (funext fun e=>funext fun st=>round_eq Try.prog hint (b:=(nav (List.reverse (.lp::PaL77_5)) (bodyOf Try.f77))) (fn:=Try.f77) (nt:=28) (T:=(Ta77 VL77_5)) [PaL77_5] rfl PaL77_5 e st rfl rfl rfl)).trans (L77_5g VL77_5 ok5 A B C D E)
noncomputable def R118(A:Bool)(B:List T)(C:Bool) :Option Res:=callK (vr 72 0 [.ptr 0 0 0, .t (.str ⟨#[40]⟩)] (Z3 A B C)) fun a b=>asTup a fun c=>endV c <| consB 0 b fun a c=>W_l3b a fun b d f=>endB c <| callK (vr 73 0 [.ptr 0 0 0] (Z3 b d f)) fun a c=>asT a fun b=>asS b fun a=>consB 0 c fun b d=>W_l3b b fun c f g=>endB d <| callK (vr 72 0 [.ptr 0 0 0, .t (.str ⟨#[44]⟩)] (Z3 c f g)) fun b d=>asTup b fun c=>endV c <| consB 0 d fun b c=>W_l3b b fun d f g=>endB c <| callK (vr 40 0 [.ptr 0 0 0] (Z3 d f g)) fun b c=>asT b fun d=>D_iisl1l5 d fun b f g h i j k=>
 consB 0 c fun d l=>W_l3b d fun c m n=>endB l <| callK (vr 72 0 [.ptr 0 0 0, .t (.str ⟨#[41]⟩)] (Z3 c m n)) fun d l=>asTup d fun c=>endV c <| consB 0 l fun c d=>W_l3b c fun l m n=>endB d <| some ((.t (.agg [.int .i64 7, .int .i64 0, .str a, .list 1 false [], .list 5 true [.agg [.int .i64 b, .int .i64 f, .str g, .list 1 h i, .list 5 j k]]])),(Z2 l m n))
theorem eq118g(A:Bool)(B:List T)(C:Bool) :gE 118 0 18 Try.f118 [] [.ptr 0 0 0] ⟨[(0, .var [.t (.list 3 A B), .t (.bool C)])],[]⟩=R118 A B C:=by kernel_rfl
theorem eq118(A:Bool)(B:List T)(C:Bool) :vr 118 0 [.ptr 0 0 0] ⟨[(0, .var [.t (.list 3 A B), .t (.bool C)])],[]⟩=R118 A B C:=
 Eq.trans (call_eq Try.prog hint (fn:=Try.f118) (nt:=18) (T:=[]) [] rfl _ _ rfl rfl rfl rfl rfl) (eq118g A B C)
noncomputable def R109(A:Bool)(B:List T)(C:Bool) :Option Res:=
(bif C then
 some ((.t (.agg [.int .i64 0, .int .i64 0, .str ByteArray.empty, .list 1 false [], .list 5 false []])),(Z2 A B C))
else
 callK (vr 106 0 [.ptr 0 0 0, .t (.str ⟨#[45]⟩)] (Z3 A B C)) fun a b=>asT a fun c=>asB c fun a=>consB 0 b fun c d=>W_l3b c fun b f g=>endB d <|
(bif a then
 callK (vr 109 0 [.ptr 0 0 0] (Z3 b f g)) fun a c=>asT a fun d=>D_iisl1l5 d fun a h i j k l m=>consB 0 c fun d n=>W_l3b d fun c o p=>endB n <| some ((.t (.agg [.int .i64 6, .int .i64 0, .str ByteArray.empty, .list 1 false [], .list 5 true [.agg [.int .i64 a, .int .i64 h, .str i, .list 1 j k, .list 5 l m]]])),(Z2 c o p))
else
 callK (vr 106 0 [.ptr 0 0 0, .t (.str ⟨#[40]⟩)] (Z3 b f g)) fun a c=>asT a fun b=>asB b fun a=>consB 0 c fun b d=>W_l3b b fun c f g=>endB d <|
(bif a then
 callK (vr 40 0 [.ptr 0 0 0] (Z3 c f g)) fun a b=>asT a fun d=>D_iisl1l5 d fun a h i j k l m=>consB 0 b fun d n=>W_l3b d fun b o p=>endB n <| callK (vr 72 0 [.ptr 0 0 0, .t (.str ⟨#[41]⟩)] (Z3 b o p)) fun d n=>asTup d fun b=>endV b <| consB 0 n fun b d=>W_l3b b fun n o p=>endB d <| Z0 a h i j k l m n o p
else
 callK (vr 106 0 [.ptr 0 0 0, .t (.str ⟨#[115,117,109]⟩)] (Z3 c f g)) fun a b=>asT a fun c=>asB c fun a=>consB 0 b fun c d=>W_l3b c fun b f g=>endB d <|
(bif a then
 callK (vr 118 0 [.ptr 0 0 0] (Z3 b f g)) fun a c=>asT a fun d=>D_iisl1l5 d fun a h i j k l m=>consB 0 c fun d n=>W_l3b d fun c o p=>endB n <| Z0 a h i j k l m c o p
else
 callK (vr 71 0 [.ptr 0 0 0] (Z3 b f g)) fun a c=>asT a fun b=>D_isi b fun a d f=>consB 0 c fun b d=>W_l3b b fun c f g=>endB d <|
(bif (decide (a=2)) then
 callK (vr 76 0 [.ptr 0 0 0, .t (.int .i64 2)] (Z3 c f g)) fun a b=>asT a fun d=>D_isi d fun a h i=>consB 0 b fun a d=>W_l3b a fun b h j=>endB d <| some ((.t (.agg [.int .i64 1, .int .i64 i, .str ByteArray.empty, .list 1 false [], .list 5 false []])),(Z2 b h j))
else
 callK (vr 73 0 [.ptr 0 0 0] (Z3 c f g)) fun a b=>asT a fun c=>asS c fun a=>consB 0 b fun c d=>W_l3b c fun b f g=>endB d <| callK (vr 77 0 [.ptr 0 0 0, .fn 73 [.ptr 0 0 0] []] (Z3 b f g)) fun c d=>asT c fun b=>asL 1 b fun c f=>consB 0 d fun b g=>W_l3b b fun d h i=>endB g <| some ((.t (.agg [.int .i64 2, .int .i64 0, .str a, .list 1 c f, .list 5 false []])),(Z2 d h i)))))))
theorem eq109g(A:Bool)(B:List T)(C:Bool) :gE 109 0 48 Try.f109 [] [.ptr 0 0 0] ⟨[(0, .var [.t (.list 3 A B), .t (.bool C)])],[]⟩=R109 A B C:=by kernel_rfl
theorem eq109(A:Bool)(B:List T)(C:Bool) :vr 109 0 [.ptr 0 0 0] ⟨[(0, .var [.t (.list 3 A B), .t (.bool C)])],[]⟩=R109 A B C:=
 Eq.trans (call_eq Try.prog hint (fn:=Try.f109) (nt:=48) (T:=[]) [] rfl _ _ rfl rfl rfl rfl rfl) (eq109g A B C)
noncomputable def R88v1(L88v1_2:YL88v1_2)(A:Bool)(B:List T)(C:Bool)(D:List (T×T)) :Option Res:=callK (vr 109 0 [.ptr 0 0 0] (Z3 A B C)) fun a b=>asT a fun c=>D_iisl1l5 c fun a d f g h i j=>consB 0 b fun c k=>W_l3b c fun b l m=>endB k <| L88v1_2 (b) (l) (m) (D) (0) (0) (ByteArray.empty) (false) ([]) (false) ([]) (a) (d) (f) (g) (h) (i) (j)
theorem eq88v1g(KL88v1_2:Env→St→Option Res)(A:Bool)(B:List T)(C:Bool)(D:List (T×T)) :gE 88 1 50 Try.f88 (Ta88v1 KL88v1_2) [.ptr 0 0 0, .fn 109 [.ptr 0 0 0] [], .map 1] ⟨[(0, .var [.t (.list 3 A B), .t (.bool C)]),(1, .map D)],[]⟩=R88v1 (WL88v1_2 KL88v1_2) A B C D:=by kernel_rfl
theorem eq88v1(A:Bool)(B:List T)(C:Bool)(D:List (T×T)) :vr 88 1 [.ptr 0 0 0, .fn 109 [.ptr 0 0 0] [], .map 1] ⟨[(0, .var [.t (.list 3 A B), .t (.bool C)]),(1, .map D)],[]⟩=R88v1 L88v1_2 A B C D:=
 Eq.trans (call_eq Try.prog hint (fn:=Try.f88) (nt:=50) (T:=(Ta88v1 VL88v1_2)) [PaL88v1_2] rfl _ _ rfl rfl rfl rfl rfl) (eq88v1g VL88v1_2 A B C D)
noncomputable def RL88v1_2(L88v1_2:YL88v1_2)(A:Bool)(B:List T)(C:Bool)(D:List (T×T))(E F:Int)(G:ByteArray)(H:Bool)(I:List T)(J:Bool)(K:List T)(L M:Int)(N:ByteArray)(O:Bool)(P:List T)(Q:Bool)(R:List T) :Option Res:=
(bif (!C) then
 callK (vr 71 0 [.ptr 0 0 0] (Z3 A B C)) fun a b=>asT a fun c=>D_isi c fun a d f=>consB 0 b fun a c=>W_l3b a fun b f g=>endB c <| lkT D (.str d) (.int .i64 0) fun a p_13=>asI .i64 a fun c=>
(bif (decide (c=0)) then
 Z1 L M N O P Q R b f g D
else
 callK (vr 71 0 [.ptr 0 0 0] (Z3 b f g)) fun a d=>asT a fun b=>D_isi b fun a f g=>consB 0 d fun b f=>W_l3b b fun d g h=>endB f <|
(bif (!decide (a=3)) then
 Z1 L M N O P Q R d g h D
else
 cutL g (some 1) none fun a=>callK (vr 109 0 [.ptr 0 0 0] (Z3 d a h)) fun b f=>asT b fun a=>D_iisl1l5 a fun b d g h i j k=>consB 0 f fun a l=>W_l3b a fun f m n=>endB l <| L88v1_2 (f) (m) (n) (D) (E) (F) (G) (H) (I) (J) (K) (c) (0) (ByteArray.empty) (false) ([]) (true) ([.agg [.int .i64 L, .int .i64 M, .str N, .list 1 O P, .list 5 Q R], .agg [.int .i64 b, .int .i64 d, .str g, .list 1 h i, .list 5 j k]])))
else
 Z1 L M N O P Q R A B C D)
theorem L88v1_2g(KL88v1_2:Env→St→Option Res)(A:Bool)(B:List T)(C:Bool)(D:List (T×T))(E F:Int)(G:ByteArray)(H:Bool)(I:List T)(J:Bool)(K:List T)(L M:Int)(N:ByteArray)(O:Bool)(P:List T)(Q:Bool)(R:List T) :WL88v1_2 (fun e st=>gP 88 1 50 Try.f88 (Ta88v1 KL88v1_2) (.lp::PaL88v1_2) e st) A B C D E F G H I J K L M N O P Q R=RL88v1_2 (WL88v1_2 KL88v1_2) A B C D E F G H I J K L M N O P Q R:=by kernel_rfl
theorem L88v1_2_eq(A:Bool)(B:List T)(C:Bool)(D:List (T×T))(E F:Int)(G:ByteArray)(H:Bool)(I:List T)(J:Bool)(K:List T)(L M:Int)(N:ByteArray)(O:Bool)(P:List T)(Q:Bool)(R:List T) :L88v1_2 A B C D E F G H I J K L M N O P Q R=RL88v1_2 L88v1_2 A B C D E F G H I J K L M N O P Q R:=
 (congrArg (fun k=>WL88v1_2 k A B C D E F G H I J K L M N O P Q R) (funext fun e=>funext fun st=>round_eq Try.prog hint (b:=(nav (List.reverse (.lp::PaL88v1_2)) (bodyOf Try.f88))) (fn:=Try.f88) (nt:=50) (T:=(Ta88v1 VL88v1_2)) [PaL88v1_2] rfl PaL88v1_2 e st rfl rfl rfl)).trans (L88v1_2g VL88v1_2 A B C D E F G H I J K L M N O P Q R)
noncomputable def R89(A:Bool)(B:List T)(C:Bool) :Option Res:=putC ([]) (.str ⟨#[42]⟩) (.int .i64 5) fun a=>callK (vr 88 1 [.ptr 0 0 0, .fn 109 [.ptr 0 0 0] [], .map 1] ⟨[(0, .var [.t (.list 3 A B), .t (.bool C)]),(1, .map a)],[]⟩) fun b c=>asT b fun a=>D_iisl1l5 a fun b d f g h i j=>consB 0 c fun a k=>W_l3b a fun c l m=>consB 1 k fun a n=>asMp a fun k=>endB n <| Z0 b d f g h i j c l m
theorem eq89g(A:Bool)(B:List T)(C:Bool) :gE 89 0 9 Try.f89 [] [.ptr 0 0 0] ⟨[(0, .var [.t (.list 3 A B), .t (.bool C)])],[]⟩=R89 A B C:=by kernel_rfl
theorem eq89(A:Bool)(B:List T)(C:Bool) :vr 89 0 [.ptr 0 0 0] ⟨[(0, .var [.t (.list 3 A B), .t (.bool C)])],[]⟩=R89 A B C:=
 Eq.trans (call_eq Try.prog hint (fn:=Try.f89) (nt:=9) (T:=[]) [] rfl _ _ rfl rfl rfl rfl rfl) (eq89g A B C)
noncomputable def R88(L88_2:YL88_2)(A:Bool)(B:List T)(C:Bool)(D:List (T×T)) :Option Res:=callK (vr 89 0 [.ptr 0 0 0] (Z3 A B C)) fun a b=>asT a fun c=>D_iisl1l5 c fun a d f g h i j=>consB 0 b fun c k=>W_l3b c fun b l m=>endB k <| L88_2 (b) (l) (m) (D) (0) (0) (ByteArray.empty) (false) ([]) (false) ([]) (a) (d) (f) (g) (h) (i) (j)
theorem eq88g(KL88_2:Env→St→Option Res)(A:Bool)(B:List T)(C:Bool)(D:List (T×T)) :gE 88 0 50 Try.f88 (Ta88 KL88_2) [.ptr 0 0 0, .fn 89 [.ptr 0 0 0] [], .map 1] ⟨[(0, .var [.t (.list 3 A B), .t (.bool C)]),(1, .map D)],[]⟩=R88 (WL88_2 KL88_2) A B C D:=by kernel_rfl
theorem eq88(A:Bool)(B:List T)(C:Bool)(D:List (T×T)) :vr 88 0 [.ptr 0 0 0, .fn 89 [.ptr 0 0 0] [], .map 1] ⟨[(0, .var [.t (.list 3 A B), .t (.bool C)]),(1, .map D)],[]⟩=R88 L88_2 A B C D:=
 Eq.trans (call_eq Try.prog hint (fn:=Try.f88) (nt:=50) (T:=(Ta88 VL88_2)) [PaL88_2] rfl _ _ rfl rfl rfl rfl rfl) (eq88g VL88_2 A B C D)
noncomputable def RL88_2(L88_2:YL88_2)(A:Bool)(B:List T)(C:Bool)(D:List (T×T))(E F:Int)(G:ByteArray)(H:Bool)(I:List T)(J:Bool)(K:List T)(L M:Int)(N:ByteArray)(O:Bool)(P:List T)(Q:Bool)(R:List T) :Option Res:=
(bif (!C) then
 callK (vr 71 0 [.ptr 0 0 0] (Z3 A B C)) fun a b=>asT a fun c=>D_isi c fun a d f=>consB 0 b fun a c=>W_l3b a fun b f g=>endB c <| lkT D (.str d) (.int .i64 0) fun a p_13=>asI .i64 a fun c=>
(bif (decide (c=0)) then
 Z1 L M N O P Q R b f g D
else
 callK (vr 71 0 [.ptr 0 0 0] (Z3 b f g)) fun a d=>asT a fun b=>D_isi b fun a f g=>consB 0 d fun b f=>W_l3b b fun d g h=>endB f <|
(bif (!decide (a=3)) then
 Z1 L M N O P Q R d g h D
else
 cutL g (some 1) none fun a=>callK (vr 89 0 [.ptr 0 0 0] (Z3 d a h)) fun b f=>asT b fun a=>D_iisl1l5 a fun b d g h i j k=>consB 0 f fun a l=>W_l3b a fun f m n=>endB l <| L88_2 (f) (m) (n) (D) (E) (F) (G) (H) (I) (J) (K) (c) (0) (ByteArray.empty) (false) ([]) (true) ([.agg [.int .i64 L, .int .i64 M, .str N, .list 1 O P, .list 5 Q R], .agg [.int .i64 b, .int .i64 d, .str g, .list 1 h i, .list 5 j k]])))
else
 Z1 L M N O P Q R A B C D)
theorem L88_2g(KL88_2:Env→St→Option Res)(A:Bool)(B:List T)(C:Bool)(D:List (T×T))(E F:Int)(G:ByteArray)(H:Bool)(I:List T)(J:Bool)(K:List T)(L M:Int)(N:ByteArray)(O:Bool)(P:List T)(Q:Bool)(R:List T) :WL88_2 (fun e st=>gP 88 0 50 Try.f88 (Ta88 KL88_2) (.lp::PaL88_2) e st) A B C D E F G H I J K L M N O P Q R=RL88_2 (WL88_2 KL88_2) A B C D E F G H I J K L M N O P Q R:=by kernel_rfl
theorem L88_2_eq(A:Bool)(B:List T)(C:Bool)(D:List (T×T))(E F:Int)(G:ByteArray)(H:Bool)(I:List T)(J:Bool)(K:List T)(L M:Int)(N:ByteArray)(O:Bool)(P:List T)(Q:Bool)(R:List T) :L88_2 A B C D E F G H I J K L M N O P Q R=RL88_2 L88_2 A B C D E F G H I J K L M N O P Q R:=
 (congrArg (fun k=>WL88_2 k A B C D E F G H I J K L M N O P Q R) (funext fun e=>funext fun st=>round_eq Try.prog hint (b:=(nav (List.reverse (.lp::PaL88_2)) (bodyOf Try.f88))) (fn:=Try.f88) (nt:=50) (T:=(Ta88 VL88_2)) [PaL88_2] rfl PaL88_2 e st rfl rfl rfl)).trans (L88_2g VL88_2 A B C D E F G H I J K L M N O P Q R)
noncomputable def R40(A:Bool)(B:List T)(C:Bool) :Option Res:=putC ([]) (.str ⟨#[43]⟩) (.int .i64 3) fun a=>putC a (.str ⟨#[45]⟩) (.int .i64 4) fun b=>callK (vr 88 0 [.ptr 0 0 0, .fn 89 [.ptr 0 0 0] [], .map 1] ⟨[(0, .var [.t (.list 3 A B), .t (.bool C)]),(1, .map b)],[]⟩) fun a c=>asT a fun b=>D_iisl1l5 b fun a d f g h i j=>consB 0 c fun b k=>W_l3b b fun c l m=>consB 1 k fun b n=>asMp b fun k=>endB n <| Z0 a d f g h i j c l m
theorem eq40g(A:Bool)(B:List T)(C:Bool) :gE 40 0 9 Try.f40 [] [.ptr 0 0 0] ⟨[(0, .var [.t (.list 3 A B), .t (.bool C)])],[]⟩=R40 A B C:=by kernel_rfl
theorem eq40(A:Bool)(B:List T)(C:Bool) :vr 40 0 [.ptr 0 0 0] ⟨[(0, .var [.t (.list 3 A B), .t (.bool C)])],[]⟩=R40 A B C:=
 Eq.trans (call_eq Try.prog hint (fn:=Try.f40) (nt:=9) (T:=[]) [] rfl _ _ rfl rfl rfl rfl rfl) (eq40g A B C)
noncomputable def R33(A:Bool)(B:List T)(C:Bool) :Option Res:=callK (vr 73 0 [.ptr 0 0 0] (Z3 A B C)) fun a b=>asT a fun c=>asS c fun a=>consB 0 b fun c d=>W_l3b c fun b f g=>endB d <| callK (vr 77 0 [.ptr 0 0 0, .fn 73 [.ptr 0 0 0] []] (Z3 b f g)) fun c d=>asT c fun b=>asL 1 b fun c f=>consB 0 d fun b g=>W_l3b b fun d h i=>endB g <| callK (vr 72 0 [.ptr 0 0 0, .t (.str ⟨#[61]⟩)] (Z3 d h i)) fun b g=>asTup b fun d=>endV d <| consB 0 g fun b d=>W_l3b b fun g h i=>endB d <| callK (vr 40 0 [.ptr 0 0 0] (Z3 g h i)) fun b d=>asT b fun g=>D_iisl1l5 g fun b h i j k l m=>
 consB 0 d fun g n=>W_l3b g fun d o p=>endB n <| some ((.t (.agg [.str a, .list 1 c f, .int .i64 b, .int .i64 h, .str i, .list 1 j k, .list 5 l m])),(Z2 d o p))
theorem eq33g(A:Bool)(B:List T)(C:Bool) :gE 33 0 17 Try.f33 [] [.ptr 0 0 0] ⟨[(0, .var [.t (.list 3 A B), .t (.bool C)])],[]⟩=R33 A B C:=by kernel_rfl
theorem eq33(A:Bool)(B:List T)(C:Bool) :vr 33 0 [.ptr 0 0 0] ⟨[(0, .var [.t (.list 3 A B), .t (.bool C)])],[]⟩=R33 A B C:=
 Eq.trans (call_eq Try.prog hint (fn:=Try.f33) (nt:=17) (T:=[]) [] rfl _ _ rfl rfl rfl rfl rfl) (eq33g A B C)
noncomputable def R34(A:Bool)(B:List T)(C:Bool) :Option Res:=
(bif (!C) then
 some ((.t (.bool (decide ((B.length:Int)=0)))),(Z2 A B C))
else
 some ((.t (.bool false)),(Z2 A B C)))
theorem eq34g(A:Bool)(B:List T)(C:Bool) :gE 34 0 17 Try.f34 [] [.ptr 0 0 0] ⟨[(0, .var [.t (.list 3 A B), .t (.bool C)])],[]⟩=R34 A B C:=by kernel_rfl
theorem eq34(A:Bool)(B:List T)(C:Bool) :vr 34 0 [.ptr 0 0 0] ⟨[(0, .var [.t (.list 3 A B), .t (.bool C)])],[]⟩=R34 A B C:=
 Eq.trans (call_eq Try.prog hint (fn:=Try.f34) (nt:=17) (T:=[]) [] rfl _ _ rfl rfl rfl rfl rfl) (eq34g A B C)
noncomputable def R100(A:Int) :Option Res:=
(bif (decide (A<0)) then
 some ((.t (.bool true)),⟨[],[]⟩)
else
 some ((.t (.bool (decide (1000000000000000000≤A)))),⟨[],[]⟩))
theorem eq100g(A:Int) :gE 100 0 9 Try.f100 [] [.t (.int .i64 A)] ⟨[],[]⟩=R100 A:=by kernel_rfl
theorem eq100(A:Int) :vr 100 0 [.t (.int .i64 A)] ⟨[],[]⟩=R100 A:=
 Eq.trans (call_eq Try.prog hint (fn:=Try.f100) (nt:=9) (T:=[]) [] rfl _ _ rfl rfl rfl rfl rfl) (eq100g A)
noncomputable def R114(L114_2:YL114_2)(A:Bool)(B:List T) :Option Res:=L114_2 (A) (B) ((B.length:Int)) (0)
theorem eq114g(KL114_2:Env→St→Option Res)(A:Bool)(B:List T) :gE 114 0 19 Try.f114 (Ta114 KL114_2) [.t (.list 1 A B), .fn 100 [] []] ⟨[],[]⟩=R114 (WL114_2 KL114_2) A B:=by kernel_rfl
theorem eq114(A:Bool)(B:List T) :vr 114 0 [.t (.list 1 A B), .fn 100 [] []] ⟨[],[]⟩=R114 L114_2 A B:=
 Eq.trans (call_eq Try.prog hint (fn:=Try.f114) (nt:=19) (T:=(Ta114 VL114_2)) [PaL114_2] rfl _ _ rfl rfl rfl rfl rfl) (eq114g VL114_2 A B)
noncomputable def RL114_2(L114_2:YL114_2)(s0z:Bool)(s0:List T)(A B:Int) :Option Res:=
(bif (decide (B<A)) then
 needC (decide (0≤B)) fun _=>getT s0 (B).toNat fun a=>asI .i64 a fun b=>callK (vr 100 0 [.t (.int .i64 b)] ⟨[],[]⟩) fun a c=>asT a fun b=>asB b fun a=>endB c <|
(bif a then
 some ((.t (.int .i64 B)),⟨[],[]⟩)
else
 L114_2 (s0z) (s0) (A) ((IntKind.i64.wrap (B+1))))
else
 some ((.t (.int .i64 (-1))),⟨[],[]⟩))
theorem L114_2g(KL114_2:Env→St→Option Res)(s0z:Bool)(s0:List T)(A B:Int) :WL114_2 (fun e st=>gP 114 0 19 Try.f114 (Ta114 KL114_2) (.lp::PaL114_2) e st) s0z s0 A B=RL114_2 (WL114_2 KL114_2) s0z s0 A B:=by kernel_rfl
theorem L114_2_eq(s0z:Bool)(s0:List T)(A B:Int) :L114_2 s0z s0 A B=RL114_2 L114_2 s0z s0 A B:=
 (congrArg (fun k=>WL114_2 k s0z s0 A B) (funext fun e=>funext fun st=>round_eq Try.prog hint (b:=(nav (List.reverse (.lp::PaL114_2)) (bodyOf Try.f114))) (fn:=Try.f114) (nt:=19) (T:=(Ta114 VL114_2)) [PaL114_2] rfl PaL114_2 e st rfl rfl rfl)).trans (L114_2g VL114_2 s0z s0 A B)
noncomputable def R99(A:Bool)(B:List T) :Option Res:=callK (vr 114 0 [.t (.list 1 A B), .fn 100 [] []] ⟨[],[]⟩) fun a b=>asT a fun c=>asI .i64 c fun a=>endB b <| some ((.t (.bool (decide (0≤a)))),⟨[],[]⟩)
theorem eq99g(A:Bool)(B:List T) :gE 99 0 9 Try.f99 [] [.t (.list 1 A B), .fn 100 [] []] ⟨[],[]⟩=R99 A B:=by kernel_rfl
theorem eq99(A:Bool)(B:List T) :vr 99 0 [.t (.list 1 A B), .fn 100 [] []] ⟨[],[]⟩=R99 A B:=
 Eq.trans (call_eq Try.prog hint (fn:=Try.f99) (nt:=9) (T:=[]) [] rfl _ _ rfl rfl rfl rfl rfl) (eq99g A B)
noncomputable def R50(A:Bool)(B:List T) :Option Res:=callK (vr 99 0 [.t (.list 1 A B), .fn 100 [] []] ⟨[],[]⟩) fun a b=>asT a fun c=>asB c fun a=>endB b <| some ((.t (.bool (!a))),⟨[],[]⟩)
theorem eq50g(A:Bool)(B:List T) :gE 50 0 6 Try.f50 [] [.t (.list 1 A B)] ⟨[],[]⟩=R50 A B:=by kernel_rfl
theorem eq50(A:Bool)(B:List T) :vr 50 0 [.t (.list 1 A B)] ⟨[],[]⟩=R50 A B:=
 Eq.trans (call_eq Try.prog hint (fn:=Try.f50) (nt:=6) (T:=[]) [] rfl _ _ rfl rfl rfl rfl rfl) (eq50g A B)
noncomputable def R102(A:ByteArray) :Option Res:=callK (vr 49 0 [.t (.str A)] ⟨[],[]⟩) fun a b=>asT a fun c=>asB c fun a=>endB b <| some ((.t (.bool (!a))),⟨[],[]⟩)
theorem eq102g(A:ByteArray) :gE 102 0 6 Try.f102 [] [.t (.str A)] ⟨[],[]⟩=R102 A:=by kernel_rfl
theorem eq102(A:ByteArray) :vr 102 0 [.t (.str A)] ⟨[],[]⟩=R102 A:=
 Eq.trans (call_eq Try.prog hint (fn:=Try.f102) (nt:=6) (T:=[]) [] rfl _ _ rfl rfl rfl rfl rfl) (eq102g A)
noncomputable def R115(L115_2:YL115_2)(A:Bool)(B:List T) :Option Res:=L115_2 (A) (B) ((B.length:Int)) (0)
theorem eq115g(KL115_2:Env→St→Option Res)(A:Bool)(B:List T) :gE 115 0 19 Try.f115 (Ta115 KL115_2) [.t (.list 1 A B), .fn 102 [] []] ⟨[],[]⟩=R115 (WL115_2 KL115_2) A B:=by kernel_rfl
theorem eq115(A:Bool)(B:List T) :vr 115 0 [.t (.list 1 A B), .fn 102 [] []] ⟨[],[]⟩=R115 L115_2 A B:=
 Eq.trans (call_eq Try.prog hint (fn:=Try.f115) (nt:=19) (T:=(Ta115 VL115_2)) [PaL115_2] rfl _ _ rfl rfl rfl rfl rfl) (eq115g VL115_2 A B)
noncomputable def RL115_2(L115_2:YL115_2)(s0z:Bool)(s0:List T)(A B:Int) :Option Res:=
(bif (decide (B<A)) then
 needC (decide (0≤B)) fun _=>getT s0 (B).toNat fun a=>asS a fun b=>callK (vr 102 0 [.t (.str b)] ⟨[],[]⟩) fun a c=>asT a fun b=>asB b fun a=>endB c <|
(bif a then
 some ((.t (.int .i64 B)),⟨[],[]⟩)
else
 L115_2 (s0z) (s0) (A) ((IntKind.i64.wrap (B+1))))
else
 some ((.t (.int .i64 (-1))),⟨[],[]⟩))
theorem L115_2g(KL115_2:Env→St→Option Res)(s0z:Bool)(s0:List T)(A B:Int) :WL115_2 (fun e st=>gP 115 0 19 Try.f115 (Ta115 KL115_2) (.lp::PaL115_2) e st) s0z s0 A B=RL115_2 (WL115_2 KL115_2) s0z s0 A B:=by kernel_rfl
theorem L115_2_eq(s0z:Bool)(s0:List T)(A B:Int) :L115_2 s0z s0 A B=RL115_2 L115_2 s0z s0 A B:=
 (congrArg (fun k=>WL115_2 k s0z s0 A B) (funext fun e=>funext fun st=>round_eq Try.prog hint (b:=(nav (List.reverse (.lp::PaL115_2)) (bodyOf Try.f115))) (fn:=Try.f115) (nt:=19) (T:=(Ta115 VL115_2)) [PaL115_2] rfl PaL115_2 e st rfl rfl rfl)).trans (L115_2g VL115_2 s0z s0 A B)
noncomputable def R101(A:Bool)(B:List T) :Option Res:=callK (vr 115 0 [.t (.list 1 A B), .fn 102 [] []] ⟨[],[]⟩) fun a b=>asT a fun c=>asI .i64 c fun a=>endB b <| some ((.t (.bool (decide (0≤a)))),⟨[],[]⟩)
theorem eq101g(A:Bool)(B:List T) :gE 101 0 9 Try.f101 [] [.t (.list 1 A B), .fn 102 [] []] ⟨[],[]⟩=R101 A B:=by kernel_rfl
theorem eq101(A:Bool)(B:List T) :vr 101 0 [.t (.list 1 A B), .fn 102 [] []] ⟨[],[]⟩=R101 A B:=
 Eq.trans (call_eq Try.prog hint (fn:=Try.f101) (nt:=9) (T:=[]) [] rfl _ _ rfl rfl rfl rfl rfl) (eq101g A B)
noncomputable def R52(A:Bool)(B:List T) :Option Res:=
(bif (decide ((B.length:Int)≤4)) then
 callK (vr 101 0 [.t (.list 1 A B), .fn 102 [] []] ⟨[],[]⟩) fun a b=>asT a fun c=>asB c fun a=>endB b <| some ((.t (.bool (!a))),⟨[],[]⟩)
else
 some ((.t (.bool false)),⟨[],[]⟩))
theorem eq52g(A:Bool)(B:List T) :gE 52 0 11 Try.f52 [] [.t (.list 1 A B)] ⟨[],[]⟩=R52 A B:=by kernel_rfl
theorem eq52(A:Bool)(B:List T) :vr 52 0 [.t (.list 1 A B)] ⟨[],[]⟩=R52 A B:=
 Eq.trans (call_eq Try.prog hint (fn:=Try.f52) (nt:=11) (T:=[]) [] rfl _ _ rfl rfl rfl rfl rfl) (eq52g A B)
noncomputable def R93(A:Int) :Option Res:=
(bif (decide (A=1)) then
 some ((.t (.int .i64 0)),⟨[],[]⟩)
else
(bif (decide (A=2)) then
 some ((.t (.int .i64 0)),⟨[],[]⟩)
else
(bif (decide (A=6)) then
 some ((.t (.int .i64 1)),⟨[],[]⟩)
else
(bif (decide (A=7)) then
 some ((.t (.int .i64 1)),⟨[],[]⟩)
else
(bif (decide (A=3)) then
 some ((.t (.int .i64 2)),⟨[],[]⟩)
else
(bif (decide (A=4)) then
 some ((.t (.int .i64 2)),⟨[],[]⟩)
else
(bif (decide (A=5)) then
 some ((.t (.int .i64 2)),⟨[],[]⟩)
else
 some ((.t (.int .i64 (-1))),⟨[],[]⟩))))))))
theorem eq93g(A:Int) :gE 93 0 14 Try.f93 [] [.t (.int .i64 A)] ⟨[],[]⟩=R93 A:=by kernel_rfl
theorem eq93(A:Int) :vr 93 0 [.t (.int .i64 A)] ⟨[],[]⟩=R93 A:=
 Eq.trans (call_eq Try.prog hint (fn:=Try.f93) (nt:=14) (T:=[]) [] rfl _ _ rfl rfl rfl rfl rfl) (eq93g A)
noncomputable def R43(J43_14:YJ43_14)(L43_18:YL43_18)(A B:Int)(C:ByteArray)(D:Bool)(E:List T)(F:Bool)(G:List T)(H:Int) :Option Res:=
(bif (decide (0<H)) then
 callK (vr 93 0 [.t (.int .i64 A)] ⟨[],[]⟩) fun a b=>asT a fun c=>asI .i64 c fun a=>endB b <|
(bif (decide (A=1)) then
(bif (decide (a=(G.length:Int))) then
(bif (decide (0≤B)) then
 J43_14 (H) ((decide (B<1000000000000000000))) (A) (B) (C) (D) (E) (F) (G) (A) (0) (C) (D) (E) (false) ([])
else
 J43_14 (H) (false) (A) (B) (C) (D) (E) (F) (G) (A) (0) (C) (D) (E) (false) ([]))
else
 J43_14 (H) (false) (A) (B) (C) (D) (E) (F) (G) (A) (0) (C) (D) (E) (false) ([]))
else
(bif (decide (A=2)) then
(bif (decide (a=(G.length:Int))) then
 callK (vr 49 0 [.t (.str C)] ⟨[],[]⟩) fun b c=>asT b fun d=>asB d fun b=>endB c <|
(bif b then
 callK (vr 52 0 [.t (.list 1 D E)] ⟨[],[]⟩) fun b c=>asT b fun d=>asB d fun b=>endB c <| J43_14 (H) (b) (A) (B) (C) (D) (E) (F) (G) (A) (B) (⟨#[]⟩) (false) ([]) (false) ([])
else
 J43_14 (H) (false) (A) (B) (C) (D) (E) (F) (G) (A) (B) (⟨#[]⟩) (false) ([]) (false) ([]))
else
 J43_14 (H) (false) (A) (B) (C) (D) (E) (F) (G) (A) (B) (⟨#[]⟩) (false) ([]) (false) ([]))
else
(bif (decide (A=7)) then
(bif (decide (a=(G.length:Int))) then
 callK (vr 49 0 [.t (.str C)] ⟨[],[]⟩) fun b c=>asT b fun d=>asB d fun b=>endB c <| J43_14 (H) (b) (A) (B) (C) (D) (E) (F) (G) (A) (B) (⟨#[]⟩) (D) (E) (false) ([])
else
 J43_14 (H) (false) (A) (B) (C) (D) (E) (F) (G) (A) (B) (⟨#[]⟩) (D) (E) (false) ([]))
else
 J43_14 (H) ((decide (a=(G.length:Int)))) (A) (B) (C) (D) (E) (F) (G) (A) (B) (C) (D) (E) (false) ([]))))
else
(bif (decide (A=1)) then
 J43_14 (H) (false) (A) (B) (C) (D) (E) (F) (G) (A) (0) (C) (D) (E) (false) ([])
else
(bif (decide (A=2)) then
 J43_14 (H) (false) (A) (B) (C) (D) (E) (F) (G) (A) (B) (⟨#[]⟩) (false) ([]) (false) ([])
else
(bif (decide (A=7)) then
 J43_14 (H) (false) (A) (B) (C) (D) (E) (F) (G) (A) (B) (⟨#[]⟩) (D) (E) (false) ([])
else
 J43_14 (H) (false) (A) (B) (C) (D) (E) (F) (G) (A) (B) (C) (D) (E) (false) ([])))))
theorem eq43g(KJ43_14 KL43_18:Env→St→Option Res)(A B:Int)(C:ByteArray)(D:Bool)(E:List T)(F:Bool)(G:List T)(H:Int) :gE 43 0 100 Try.f43 (Ta43 KJ43_14 KL43_18) [.t (.agg [.int .i64 A, .int .i64 B, .str C, .list 1 D E, .list 5 F G]), .t (.int .i64 H)] ⟨[],[]⟩=R43 (WJ43_14 KJ43_14) (WL43_18 KL43_18) A B C D E F G H:=by kernel_rfl
theorem eq43(A B:Int)(C:ByteArray)(D:Bool)(E:List T)(F:Bool)(G:List T)(H:Int) :vr 43 0 [.t (.agg [.int .i64 A, .int .i64 B, .str C, .list 1 D E, .list 5 F G]), .t (.int .i64 H)] ⟨[],[]⟩=R43 J43_14 L43_18 A B C D E F G H:=
 Eq.trans (call_eq Try.prog hint (fn:=Try.f43) (nt:=100) (T:=(Ta43 VJ43_14 VL43_18)) [PaJ43_14,PaL43_18] rfl _ _ rfl rfl rfl rfl rfl) (eq43g VJ43_14 VL43_18 A B C D E F G H)
noncomputable def RJ43_14(J43_14:YJ43_14)(L43_18:YL43_18)(deep1:Int)(ok6:Bool)(A B:Int)(C:ByteArray)(D:Bool)(E:List T)(F:Bool)(G:List T)(H I:Int)(J:ByteArray)(K:Bool)(L:List T)(M:Bool)(N:List T) :Option Res:=
(bif (!ok6) then
 some ((.t (.int .i64 (-1))),⟨[],[]⟩)
else
(bif (!decide (I=0)) then
 some ((.t (.int .i64 (-1))),⟨[],[]⟩)
else
(bif (!decide ((J:ByteArray)=⟨#[]⟩)) then
 some ((.t (.int .i64 (-1))),⟨[],[]⟩)
else
(bif (decide (0<(L.length:Int))) then
 some ((.t (.int .i64 (-1))),⟨[],[]⟩)
else
 L43_18 (deep1) (1) (F) (G) ((G.length:Int)) (0)))))
theorem J43_14g(KJ43_14 KL43_18:Env→St→Option Res)(deep1:Int)(ok6:Bool)(A B:Int)(C:ByteArray)(D:Bool)(E:List T)(F:Bool)(G:List T)(H I:Int)(J:ByteArray)(K:Bool)(L:List T)(M:Bool)(N:List T) :WJ43_14 (fun e st=>gP 43 0 100 Try.f43 (Ta43 KJ43_14 KL43_18) PaJ43_14 e st) deep1 ok6 A B C D E F G H I J K L M N=RJ43_14 (WJ43_14 KJ43_14) (WL43_18 KL43_18) deep1 ok6 A B C D E F G H I J K L M N:=by kernel_rfl
theorem J43_14_eq(deep1:Int)(ok6:Bool)(A B:Int)(C:ByteArray)(D:Bool)(E:List T)(F:Bool)(G:List T)(H I:Int)(J:ByteArray)(K:Bool)(L:List T)(M:Bool)(N:List T) :J43_14 deep1 ok6 A B C D E F G H I J K L M N=RJ43_14 J43_14 L43_18 deep1 ok6 A B C D E F G H I J K L M N:=
 (congrArg (fun k=>WJ43_14 k deep1 ok6 A B C D E F G H I J K L M N) (funext fun e=>funext fun st=>join_eq Try.prog hint (fn:=Try.f43) (nt:=100) (T:=(Ta43 VJ43_14 VL43_18)) [PaJ43_14,PaL43_18] rfl PaJ43_14 e st rfl)).trans (J43_14g VJ43_14 VL43_18 deep1 ok6 A B C D E F G H I J K L M N)
noncomputable def RL43_18(J43_14:YJ43_14)(L43_18:YL43_18)(deep1 sum7:Int)(A:Bool)(B:List T)(C D:Int) :Option Res:=
(bif (decide (D<C)) then
 needC (decide (0≤D)) fun _=>getT B (D).toNat fun a=>D_iisl1l5 a fun b c d f g h i=>callK (vr 43 0 [.t (.agg [.int .i64 b, .int .i64 c, .str d, .list 1 f g, .list 5 h i]), .t (.int .i64 (IntKind.i64.wrap (deep1 - 1)))] ⟨[],[]⟩) fun a j=>asT a fun b=>asI .i64 b fun a=>endB j <|
(bif (decide (a<0)) then
 some ((.t (.int .i64 (-1))),⟨[],[]⟩)
else
 L43_18 (deep1) ((IntKind.i64.wrap (sum7+a))) (A) (B) (C) ((IntKind.i64.wrap (D+1))))
else
 some ((.t (.int .i64 sum7)),⟨[],[]⟩))
theorem L43_18g(KJ43_14 KL43_18:Env→St→Option Res)(deep1 sum7:Int)(A:Bool)(B:List T)(C D:Int) :WL43_18 (fun e st=>gP 43 0 100 Try.f43 (Ta43 KJ43_14 KL43_18) (.lp::PaL43_18) e st) deep1 sum7 A B C D=RL43_18 (WJ43_14 KJ43_14) (WL43_18 KL43_18) deep1 sum7 A B C D:=by kernel_rfl
theorem L43_18_eq(deep1 sum7:Int)(A:Bool)(B:List T)(C D:Int) :L43_18 deep1 sum7 A B C D=RL43_18 J43_14 L43_18 deep1 sum7 A B C D:=
 (congrArg (fun k=>WL43_18 k deep1 sum7 A B C D) (funext fun e=>funext fun st=>round_eq Try.prog hint (b:=(nav (List.reverse (.lp::PaL43_18)) (bodyOf Try.f43))) (fn:=Try.f43) (nt:=100) (T:=(Ta43 VJ43_14 VL43_18)) [PaJ43_14,PaL43_18] rfl PaL43_18 e st rfl rfl rfl)).trans (L43_18g VJ43_14 VL43_18 deep1 sum7 A B C D)
noncomputable def R17(A B:Int)(C:ByteArray)(D:Bool)(E:List T)(F:Bool)(G:List T) :Option Res:=callK (vr 43 0 [.t (.agg [.int .i64 A, .int .i64 B, .str C, .list 1 D E, .list 5 F G]), .t (.int .i64 16)] ⟨[],[]⟩) fun a b=>asT a fun c=>asI .i64 c fun a=>endB b <|
(bif (decide (0<a)) then
 some ((.t (.bool (decide (a≤120)))),⟨[],[]⟩)
else
 some ((.t (.bool false)),⟨[],[]⟩))
theorem eq17g(A B:Int)(C:ByteArray)(D:Bool)(E:List T)(F:Bool)(G:List T) :gE 17 0 12 Try.f17 [] [.t (.agg [.int .i64 A, .int .i64 B, .str C, .list 1 D E, .list 5 F G])] ⟨[],[]⟩=R17 A B C D E F G:=by kernel_rfl
theorem eq17(A B:Int)(C:ByteArray)(D:Bool)(E:List T)(F:Bool)(G:List T) :vr 17 0 [.t (.agg [.int .i64 A, .int .i64 B, .str C, .list 1 D E, .list 5 F G])] ⟨[],[]⟩=R17 A B C D E F G:=
 Eq.trans (call_eq Try.prog hint (fn:=Try.f17) (nt:=12) (T:=[]) [] rfl _ _ rfl rfl rfl rfl rfl) (eq17g A B C D E F G)
noncomputable def R24(L24_3:YL24_3)(L24_8:YL24_8)(A:Bool)(B:List T)(C:Bool)(D:List T) :Option Res:=
(bif (decide ((B.length:Int)≤32)) then
 L24_3 ((decide ((D.length:Int)≤32))) (A) (B) ((B.length:Int)) (0) (A) (B) (C) (D)
else
 L24_3 (false) (A) (B) ((B.length:Int)) (0) (A) (B) (C) (D))
theorem eq24g(KL24_3 KL24_8:Env→St→Option Res)(A:Bool)(B:List T)(C:Bool)(D:List T) :gE 24 0 80 Try.f24 (Ta24 KL24_3 KL24_8) [.t (.agg [.list 4 A B, .list 7 C D])] ⟨[],[]⟩=R24 (WL24_3 KL24_3) (WL24_8 KL24_8) A B C D:=by kernel_rfl
theorem eq24(A:Bool)(B:List T)(C:Bool)(D:List T) :vr 24 0 [.t (.agg [.list 4 A B, .list 7 C D])] ⟨[],[]⟩=R24 L24_3 L24_8 A B C D:=
 Eq.trans (call_eq Try.prog hint (fn:=Try.f24) (nt:=80) (T:=(Ta24 VL24_3 VL24_8)) [PaL24_3,PaL24_8] rfl _ _ rfl rfl rfl rfl rfl) (eq24g VL24_3 VL24_8 A B C D)
noncomputable def RL24_3(L24_3:YL24_3)(L24_8:YL24_8)(ok3 A:Bool)(B:List T)(C D:Int)(E:Bool)(F:List T)(G:Bool)(H:List T) :Option Res:=
(bif (decide (D<C)) then
 needC (decide (0≤D)) fun _=>getT B (D).toNat fun a=>D_sl1si a fun b c d f g=>
(bif ok3 then
 callK (vr 49 0 [.t (.str b)] ⟨[],[]⟩) fun a h=>asT a fun b=>asB b fun a=>endB h <|
(bif a then
(bif (decide ((d.length:Int)≤4)) then
 callK (vr 50 0 [.t (.list 1 c d)] ⟨[],[]⟩) fun a b=>asT a fun c=>asB c fun a=>endB b <|
(bif a then
 callK (vr 50 0 [.t (.list 1 true [.int .i64 g])] ⟨[],[]⟩) fun a b=>asT a fun c=>asB c fun a=>endB b <|
(bif a then
 callK (vr 51 0 [.t (.str f)] ⟨[],[]⟩) fun a b=>asT a fun c=>asB c fun a=>endB b <| L24_3 (a) (A) (B) (C) ((IntKind.i64.wrap (D+1))) (E) (F) (G) (H)
else
 L24_3 (false) (A) (B) (C) ((IntKind.i64.wrap (D+1))) (E) (F) (G) (H))
else
 L24_3 (false) (A) (B) (C) ((IntKind.i64.wrap (D+1))) (E) (F) (G) (H))
else
 L24_3 (false) (A) (B) (C) ((IntKind.i64.wrap (D+1))) (E) (F) (G) (H))
else
 L24_3 (false) (A) (B) (C) ((IntKind.i64.wrap (D+1))) (E) (F) (G) (H))
else
 L24_3 (false) (A) (B) (C) ((IntKind.i64.wrap (D+1))) (E) (F) (G) (H))
else
 L24_8 (ok3) (G) (H) ((H.length:Int)) (0))
theorem L24_3g(KL24_3 KL24_8:Env→St→Option Res)(ok3 A:Bool)(B:List T)(C D:Int)(E:Bool)(F:List T)(G:Bool)(H:List T) :WL24_3 (fun e st=>gP 24 0 80 Try.f24 (Ta24 KL24_3 KL24_8) (.lp::PaL24_3) e st) ok3 A B C D E F G H=RL24_3 (WL24_3 KL24_3) (WL24_8 KL24_8) ok3 A B C D E F G H:=by kernel_rfl
theorem L24_3_eq(ok3 A:Bool)(B:List T)(C D:Int)(E:Bool)(F:List T)(G:Bool)(H:List T) :L24_3 ok3 A B C D E F G H=RL24_3 L24_3 L24_8 ok3 A B C D E F G H:=
 (congrArg (fun k=>WL24_3 k ok3 A B C D E F G H) (funext fun e=>funext fun st=>round_eq Try.prog hint (b:=(nav (List.reverse (.lp::PaL24_3)) (bodyOf Try.f24))) (fn:=Try.f24) (nt:=80) (T:=(Ta24 VL24_3 VL24_8)) [PaL24_3,PaL24_8] rfl PaL24_3 e st rfl rfl rfl)).trans (L24_3g VL24_3 VL24_8 ok3 A B C D E F G H)
noncomputable def RL24_8(L24_3:YL24_3)(L24_8:YL24_8)(ok3 A:Bool)(B:List T)(C D:Int) :Option Res:=
(bif (decide (D<C)) then
 needC (decide (0≤D)) fun _=>getT B (D).toNat fun a=>D_sl1iisl1l5 a fun b c d f g h i j k l=>
(bif ok3 then
 callK (vr 49 0 [.t (.str b)] ⟨[],[]⟩) fun a m=>asT a fun b=>asB b fun a=>endB m <|
(bif a then
 callK (vr 52 0 [.t (.list 1 c d)] ⟨[],[]⟩) fun a b=>asT a fun c=>asB c fun a=>endB b <|
(bif a then
 callK (vr 17 0 [.t (.agg [.int .i64 f, .int .i64 g, .str h, .list 1 i j, .list 5 k l])] ⟨[],[]⟩) fun a b=>asT a fun c=>asB c fun a=>endB b <| L24_8 (a) (A) (B) (C) ((IntKind.i64.wrap (D+1)))
else
 L24_8 (false) (A) (B) (C) ((IntKind.i64.wrap (D+1))))
else
 L24_8 (false) (A) (B) (C) ((IntKind.i64.wrap (D+1))))
else
 L24_8 (false) (A) (B) (C) ((IntKind.i64.wrap (D+1))))
else
(bif (!ok3) then
 some ((.t (.int .i64 1)),⟨[],[]⟩)
else
 some ((.t (.int .i64 0)),⟨[],[]⟩)))
theorem L24_8g(KL24_3 KL24_8:Env→St→Option Res)(ok3 A:Bool)(B:List T)(C D:Int) :WL24_8 (fun e st=>gP 24 0 80 Try.f24 (Ta24 KL24_3 KL24_8) (.lp::PaL24_8) e st) ok3 A B C D=RL24_8 (WL24_3 KL24_3) (WL24_8 KL24_8) ok3 A B C D:=by kernel_rfl
theorem L24_8_eq(ok3 A:Bool)(B:List T)(C D:Int) :L24_8 ok3 A B C D=RL24_8 L24_3 L24_8 ok3 A B C D:=
 (congrArg (fun k=>WL24_8 k ok3 A B C D) (funext fun e=>funext fun st=>round_eq Try.prog hint (b:=(nav (List.reverse (.lp::PaL24_8)) (bodyOf Try.f24))) (fn:=Try.f24) (nt:=80) (T:=(Ta24 VL24_3 VL24_8)) [PaL24_3,PaL24_8] rfl PaL24_8 e st rfl rfl rfl)).trans (L24_8g VL24_3 VL24_8 ok3 A B C D)
noncomputable def R10(L10_6:YL10_6)(J10_14:YJ10_14)(A:ByteArray) :Option Res:=callK (vr 28 0 [.t (.str A)] ⟨[],[]⟩) fun a b=>asTup a fun c=>consV c fun a d=>asT a fun c=>asL 3 c fun a f=>consV d fun c g=>asT c fun d=>asI .i64 d fun c=>consV g fun d h=>asT d fun g=>asI .i64 g fun d=>endV h <| endB b <|
(bif (!decide (d=0)) then
 some ((.tup [.t (.agg [.list 4 false [], .list 7 false []]), .t (.int .i64 c), .t (.int .i64 d)]),⟨[],[]⟩)
else
 callK (vr 30 0 [.t (.list 3 a f)] ⟨[],[]⟩) fun b c=>asT b fun a=>asL 1 a fun b d=>endB c <| L10_6 (b) (d) (b) (d) ((d.length:Int)) (0) (false) ([]) (false) ([]))
theorem eq10g(KL10_6 KJ10_14:Env→St→Option Res)(A:ByteArray) :gE 10 0 76 Try.f10 (Ta10 KL10_6 KJ10_14) [.t (.str A)] ⟨[],[]⟩=R10 (WL10_6 KL10_6) (WJ10_14 KJ10_14) A:=by kernel_rfl
theorem eq10(A:ByteArray) :vr 10 0 [.t (.str A)] ⟨[],[]⟩=R10 L10_6 J10_14 A:=
 Eq.trans (call_eq Try.prog hint (fn:=Try.f10) (nt:=76) (T:=(Ta10 VL10_6 VJ10_14)) [PaL10_6,PaJ10_14] rfl _ _ rfl rfl rfl rfl rfl) (eq10g VL10_6 VJ10_14 A)
noncomputable def RL10_6(L10_6:YL10_6)(J10_14:YJ10_14)(lines8z:Bool)(lines8:List T)(A:Bool)(B:List T)(C D:Int)(E:Bool)(F:List T)(G:Bool)(H:List T) :Option Res:=
(bif (decide (D<C)) then
 needC (decide (0≤D)) fun _=>getT B (D).toNat fun a=>asL 3 a fun b c=>callK (vr 31 0 [.ptr 0 0 0, .t (.str ⟨#[116,101,110,115,111,114]⟩)] ⟨[(0, .var [.t (.list 3 b c), .t (.bool false)])],[]⟩) fun a d=>asT a fun b=>asB b fun a=>consB 0 d fun b c=>W_l3b b fun d f g=>endB c <|
(bif a then
 callK (vr 32 0 [.ptr 0 0 0] (Z3 d f g)) fun a b=>asT a fun c=>D_sl1si c fun a h i j k=>consB 0 b fun c l=>W_l3b c fun b m n=>endB l <| needC (decide ((F.length+1)*(64+1)≤70368744177664) &&decide (64≤1048576)) fun _=>J10_14 (lines8z) (lines8) (D) ((decide (0<(H.length:Int)))) (A) (B) (C) (D) ((E || true)) ((F++([.agg [.str a, .list 1 h i, .str j, .int .i64 k]]:List T))) (G) (H) (b) (m) (n)
else
 callK (vr 33 0 [.ptr 0 0 0] (Z3 d f g)) fun a b=>asT a fun c=>D_sl1iisl1l5 c fun a d f g h i j k l m=>consB 0 b fun c n=>W_l3b c fun b o p=>endB n <| needC (decide ((H.length+1)*(120+1)≤70368744177664) &&decide (120≤1048576)) fun _=>J10_14 (lines8z) (lines8) (D) (false) (A) (B) (C) (D) (E) (F) ((G || true)) ((H++([.agg [.str a, .list 1 d f, .int .i64 g, .int .i64 h, .str i, .list 1 j k, .list 5 l m]]:List T))) (b) (o) (p))
else
 some ((.tup [.t (.agg [.list 4 E F, .list 7 G H]), .t (.int .i64 (lines8.length:Int)), .t (.int .i64 0)]),⟨[],[]⟩))
theorem L10_6g(KL10_6 KJ10_14:Env→St→Option Res)(lines8z:Bool)(lines8:List T)(A:Bool)(B:List T)(C D:Int)(E:Bool)(F:List T)(G:Bool)(H:List T) :WL10_6 (fun e st=>gP 10 0 76 Try.f10 (Ta10 KL10_6 KJ10_14) (.lp::PaL10_6) e st) lines8z lines8 A B C D E F G H=RL10_6 (WL10_6 KL10_6) (WJ10_14 KJ10_14) lines8z lines8 A B C D E F G H:=by kernel_rfl
theorem L10_6_eq(lines8z:Bool)(lines8:List T)(A:Bool)(B:List T)(C D:Int)(E:Bool)(F:List T)(G:Bool)(H:List T) :L10_6 lines8z lines8 A B C D E F G H=RL10_6 L10_6 J10_14 lines8z lines8 A B C D E F G H:=
 (congrArg (fun k=>WL10_6 k lines8z lines8 A B C D E F G H) (funext fun e=>funext fun st=>round_eq Try.prog hint (b:=(nav (List.reverse (.lp::PaL10_6)) (bodyOf Try.f10))) (fn:=Try.f10) (nt:=76) (T:=(Ta10 VL10_6 VJ10_14)) [PaL10_6,PaJ10_14] rfl PaL10_6 e st rfl rfl rfl)).trans (L10_6g VL10_6 VJ10_14 lines8z lines8 A B C D E F G H)
noncomputable def RJ10_14(L10_6:YL10_6)(J10_14:YJ10_14)(lines8z:Bool)(lines8:List T)(i9:Int)(late12 A:Bool)(B:List T)(C D:Int)(E:Bool)(F:List T)(G:Bool)(H:List T)(I:Bool)(J:List T)(K:Bool) :Option Res:=callK (vr 34 0 [.ptr 0 0 0] (Z3 I J K)) fun a b=>asT a fun c=>asB c fun a=>consB 0 b fun c d=>W_l3b c fun b f g=>endB d <|
(bif (!a) then
 some ((.tup [.t (.agg [.list 4 false [], .list 7 false []]), .t (.int .i64 i9), .t (.int .i64 6)]),⟨[],[]⟩)
else
(bif late12 then
 some ((.tup [.t (.agg [.list 4 false [], .list 7 false []]), .t (.int .i64 i9), .t (.int .i64 6)]),⟨[],[]⟩)
else
 callK (vr 24 0 [.t (.agg [.list 4 E F, .list 7 G H])] ⟨[],[]⟩) fun a b=>asT a fun c=>asI .i64 c fun a=>endB b <|
(bif (!decide (a=0)) then
 some ((.tup [.t (.agg [.list 4 false [], .list 7 false []]), .t (.int .i64 i9), .t (.int .i64 2)]),⟨[],[]⟩)
else
 L10_6 (lines8z) (lines8) (A) (B) (C) ((IntKind.i64.wrap (D+1))) (E) (F) (G) (H))))
theorem J10_14g(KL10_6 KJ10_14:Env→St→Option Res)(lines8z:Bool)(lines8:List T)(i9:Int)(late12 A:Bool)(B:List T)(C D:Int)(E:Bool)(F:List T)(G:Bool)(H:List T)(I:Bool)(J:List T)(K:Bool) :WJ10_14 (fun e st=>gP 10 0 76 Try.f10 (Ta10 KL10_6 KJ10_14) PaJ10_14 e st) lines8z lines8 i9 late12 A B C D E F G H I J K=RJ10_14 (WL10_6 KL10_6) (WJ10_14 KJ10_14) lines8z lines8 i9 late12 A B C D E F G H I J K:=by kernel_rfl
theorem J10_14_eq(lines8z:Bool)(lines8:List T)(i9:Int)(late12 A:Bool)(B:List T)(C D:Int)(E:Bool)(F:List T)(G:Bool)(H:List T)(I:Bool)(J:List T)(K:Bool) :J10_14 lines8z lines8 i9 late12 A B C D E F G H I J K=RJ10_14 L10_6 J10_14 lines8z lines8 i9 late12 A B C D E F G H I J K:=
 (congrArg (fun k=>WJ10_14 k lines8z lines8 i9 late12 A B C D E F G H I J K) (funext fun e=>funext fun st=>join_eq Try.prog hint (fn:=Try.f10) (nt:=76) (T:=(Ta10 VL10_6 VJ10_14)) [PaL10_6,PaJ10_14] rfl PaJ10_14 e st rfl)).trans (J10_14g VL10_6 VJ10_14 lines8z lines8 i9 late12 A B C D E F G H I J K)
noncomputable def R9 :Option Res:=callK (vr 10 0 [.t (.str ⟨#[97,91,105,93,32,61,32,50,32,42,32,98,91,105,44,32,107,93,32,45,32,99,91,93]⟩)] ⟨[],[]⟩) fun a b=>asTup a fun c=>consV c fun a d=>asT a fun c=>asA c fun a=>consT a fun c f=>asL 4 c fun a g=>consT f fun a c=>asL 7 a fun f g=>endT c <| consV d fun a c=>asT a fun d=>asI .i64 d fun a=>consV c fun d f=>asT d fun c=>asI .i64 c fun d=>endV f <| endB b <|
(bif (!decide (a=1)) then
 some ((.t (.bool false)),⟨[],[]⟩)
else
(bif (!decide (d=0)) then
 some ((.t (.bool false)),⟨[],[]⟩)
else
(bif (!decide ((g.length:Int)=1)) then
 some ((.t (.bool false)),⟨[],[]⟩)
else
 needC (decide (0≤0)) fun _=>getT g ((0:Int)).toNat fun a=>asA a fun b=>consT b fun a c=>asS a fun b=>consT c fun a b=>asL 1 a fun c d=>consT b fun a c=>asI .i64 a fun b=>consT c fun a d=>asI .i64 a fun c=>consT d fun a c=>asS a fun d=>consT c fun a d=>asL 1 a fun c f=>consT d fun a c=>asL 5 a fun d f=>endT c <|
(bif (decide (b=4)) then
(bif (decide ((f.length:Int)=2)) then
 needC (decide (0≤0)) fun _=>getT f ((0:Int)).toNat fun a=>asA a fun b=>consT b fun a c=>asI .i64 a fun b=>consT c fun a d=>asI .i64 a fun c=>consT d fun a c=>asS a fun d=>consT c fun a d=>asL 1 a fun c h=>consT d fun a c=>asL 5 a fun d h=>endT c <|
(bif (decide (b=5)) then
 needC (decide (0≤1)) fun _=>getT f ((1:Int)).toNat fun a=>asA a fun b=>consT b fun a c=>asI .i64 a fun b=>consT c fun a b=>asI .i64 a fun c=>consT b fun a c=>asS a fun b=>consT c fun a d=>asL 1 a fun c f=>consT d fun a c=>asL 5 a fun d f=>endT c <|
(bif (decide ((b:ByteArray)=⟨#[99]⟩)) then
 needC (decide (0≤0)) fun _=>getT g ((0:Int)).toNat fun a=>asA a fun b=>consT b fun a c=>asS a fun b=>consT c fun a d=>asL 1 a fun c f=>consT d fun a c=>asI .i64 a fun d=>consT c fun a d=>asI .i64 a fun c=>consT d fun a c=>asS a fun d=>consT c fun a d=>asL 1 a fun c f=>consT d fun a c=>asL 5 a fun d f=>endT c <| some ((.t (.bool (decide ((b:ByteArray)=⟨#[97]⟩)))),⟨[],[]⟩)
else
 some ((.t (.bool false)),⟨[],[]⟩))
else
 some ((.t (.bool false)),⟨[],[]⟩))
else
 some ((.t (.bool false)),⟨[],[]⟩))
else
 some ((.t (.bool false)),⟨[],[]⟩)))))
theorem eq9g :gE 9 0 60 Try.f9 [] [] ⟨[],[]⟩=R9:=by kernel_rfl
theorem eq9 :vr 9 0 [] ⟨[],[]⟩=R9:=
 Eq.trans (call_eq Try.prog hint (fn:=Try.f9) (nt:=60) (T:=[]) [] rfl _ _ rfl rfl rfl rfl rfl) (eq9g)
noncomputable def R53(A:Bool)(B:List T) :Option Res:=
(bif (decide (0<(B.length:Int))) then
 needC (decide ((B.length+1)*(32+1)≤70368744177664) &&decide (32≤1048576)) fun _=>some ((.tup []),⟨[(0, .var [.buf 500]),(500, .arr true 3 (A || true) (B++([.agg [.int .i64 4, .str ByteArray.empty, .int .i64 0]]:List T)))],[500,501]⟩)
else
 some ((.tup []),⟨[(0, .var [.buf 1]),(1, .arr true 3 A B)],[500,501]⟩))
theorem eq53g(A:Bool)(B:List T) :gE 53 0 18 Try.f53 [] [.ptr 0 0 0] ⟨[(0, .var [.buf 1]),(1, .arr true 3 A B)],[]⟩=R53 A B:=by kernel_rfl
theorem eq53(A:Bool)(B:List T) :vr 53 0 [.ptr 0 0 0] ⟨[(0, .var [.buf 1]),(1, .arr true 3 A B)],[]⟩=R53 A B:=
 Eq.trans (call_eq Try.prog hint (fn:=Try.f53) (nt:=18) (T:=[]) [] rfl _ _ rfl rfl rfl rfl rfl) (eq53g A B)
noncomputable def R54(A:ByteArray)(B:Bool)(C:List T) :Option Res:=needC (decide ((C.length+1)*(32+1)≤70368744177664) &&decide (32≤1048576)) fun _=>some ((.tup []),⟨[(0, .var [.buf 500]),(500, .arr true 3 (B || true) (C++([.agg [.int .i64 1, .str A, .int .i64 0]]:List T)))],[500,501]⟩)
theorem eq54g(A:ByteArray)(B:Bool)(C:List T) :gE 54 0 15 Try.f54 [] [.ptr 0 0 0, .t (.str A)] ⟨[(0, .var [.buf 1]),(1, .arr true 3 B C)],[]⟩=R54 A B C:=by kernel_rfl
theorem eq54(A:ByteArray)(B:Bool)(C:List T) :vr 54 0 [.ptr 0 0 0, .t (.str A)] ⟨[(0, .var [.buf 1]),(1, .arr true 3 B C)],[]⟩=R54 A B C:=
 Eq.trans (call_eq Try.prog hint (fn:=Try.f54) (nt:=15) (T:=[]) [] rfl _ _ rfl rfl rfl rfl rfl) (eq54g A B C)
noncomputable def R57(A:ByteArray)(B:Bool)(C:List T) :Option Res:=needC (decide ((C.length+1)*(32+1)≤70368744177664) &&decide (32≤1048576)) fun _=>some ((.tup []),⟨[(0, .var [.buf 500]),(500, .arr true 3 (B || true) (C++([.agg [.int .i64 3, .str A, .int .i64 0]]:List T)))],[500,501]⟩)
theorem eq57g(A:ByteArray)(B:Bool)(C:List T) :gE 57 0 15 Try.f57 [] [.ptr 0 0 0, .t (.str A)] ⟨[(0, .var [.buf 1]),(1, .arr true 3 B C)],[]⟩=R57 A B C:=by kernel_rfl
theorem eq57(A:ByteArray)(B:Bool)(C:List T) :vr 57 0 [.ptr 0 0 0, .t (.str A)] ⟨[(0, .var [.buf 1]),(1, .arr true 3 B C)],[]⟩=R57 A B C:=
 Eq.trans (call_eq Try.prog hint (fn:=Try.f57) (nt:=15) (T:=[]) [] rfl _ _ rfl rfl rfl rfl rfl) (eq57g A B C)
noncomputable def R116(L116_1:YL116_1)(A:Bool)(B:List T) :Option Res:=L116_1 (0) ((IntKind.i64.wrap ((B.length:Int) - 1))) (A) (B)
theorem eq116g(KL116_1:Env→St→Option Res)(A:Bool)(B:List T) :gE 116 0 28 Try.f116 (Ta116 KL116_1) [.buf 0] ⟨[(0, .arr true 1 A B)],[]⟩=R116 (WL116_1 KL116_1) A B:=by kernel_rfl
theorem eq116(A:Bool)(B:List T) :vr 116 0 [.buf 0] ⟨[(0, .arr true 1 A B)],[]⟩=R116 L116_1 A B:=
 Eq.trans (call_eq Try.prog hint (fn:=Try.f116) (nt:=28) (T:=(Ta116 VL116_1)) [PaL116_1] rfl _ _ rfl rfl rfl rfl rfl) (eq116g VL116_1 A B)
noncomputable def RL116_1(L116_1:YL116_1)(i2 j3:Int)(A:Bool)(B:List T) :Option Res:=
(bif (decide (i2<j3)) then
 needC (decide (0≤j3) &&decide (j3<(B.length:Int))) fun _=>getT B ((j3).toNat) fun a=>asI .u8 a fun b=>needC (decide (0≤i2) &&decide (i2<(B.length:Int))) fun _=>getT B ((i2).toNat) fun a=>asI .u8 a fun c=>needC (decide (0≤i2) &&decide (i2<(B.length:Int))) fun _=>needC (A &&true) fun _=>setT B ((i2).toNat) (.int .u8 b) fun a=>needC (decide (0≤j3) &&decide (j3<(a.length:Int))) fun _=>needC (A &&true) fun _=>setT a ((j3).toNat) (.int .u8 c) fun b=>L116_1 ((IntKind.i64.wrap (i2+1))) ((IntKind.i64.wrap (j3 - 1))) (A) (b)
else
 some ((.tup []),⟨[(0, .arr true 1 A B)],[500]⟩))
theorem L116_1g(KL116_1:Env→St→Option Res)(i2 j3:Int)(A:Bool)(B:List T) :WL116_1 (fun e st=>gP 116 0 28 Try.f116 (Ta116 KL116_1) (.lp::PaL116_1) e st) i2 j3 A B=RL116_1 (WL116_1 KL116_1) i2 j3 A B:=by kernel_rfl
theorem L116_1_eq(i2 j3:Int)(A:Bool)(B:List T) :L116_1 i2 j3 A B=RL116_1 L116_1 i2 j3 A B:=
 (congrArg (fun k=>WL116_1 k i2 j3 A B) (funext fun e=>funext fun st=>round_eq Try.prog hint (b:=(nav (List.reverse (.lp::PaL116_1)) (bodyOf Try.f116))) (fn:=Try.f116) (nt:=28) (T:=(Ta116 VL116_1)) [PaL116_1] rfl PaL116_1 e st rfl rfl rfl)).trans (L116_1g VL116_1 i2 j3 A B)
noncomputable def R103(L103_5:YL103_5)(A:Int) :Option Res:=
(bif (decide (A<0)) then
 L103_5 (A) ((IntKind.u64.wrap (0 - (IntKind.u64.wrap A)))) (false) ([])
else
 L103_5 (A) ((IntKind.u64.wrap A)) (false) ([]))
theorem eq103g(KL103_5:Env→St→Option Res)(A:Int) :gE 103 0 31 Try.f103 (Ta103 KL103_5) [.t (.int .i64 A)] ⟨[],[]⟩=R103 (WL103_5 KL103_5) A:=by kernel_rfl
theorem eq103(A:Int) :vr 103 0 [.t (.int .i64 A)] ⟨[],[]⟩=R103 L103_5 A:=
 Eq.trans (call_eq Try.prog hint (fn:=Try.f103) (nt:=31) (T:=(Ta103 VL103_5)) [PaL103_5] rfl _ _ rfl rfl rfl rfl rfl) (eq103g VL103_5 A)
noncomputable def RL103_5(L103_5:YL103_5)(n0 u4:Int)(A:Bool)(B:List T) :Option Res:=needC (decide ((B.length+1)*(1+1)≤70368744177664) &&decide (1≤1048576)) fun _=>
(bif (decide ((IntKind.u64.wrap (Int.tdiv u4 10))=0)) then
(bif (decide (n0<0)) then
 needC (decide ((((B++([.int .u8 (IntKind.u8.wrap (IntKind.u64.wrap ((48:Int)+(Int.tmod u4 10))))]:List T))).length+1)*(1+1)≤70368744177664) &&decide (1≤1048576)) fun _=>callK (vr 116 0 [.buf 0] ⟨[(0, .arr true 1 ((A || true) || true) ((B++([.int .u8 (IntKind.u8.wrap (IntKind.u64.wrap ((48:Int)+(Int.tmod u4 10))))]:List T))++([.int .u8 45]:List T)))],[]⟩) fun a b=>asTup a fun c=>endV c <| consB 0 b fun a c=>asArr 1 a fun b d=>endB c <| needC ((1==1) &&d.all isByte) fun _=>some ((.t (.str ⟨(d.map byteT).toArray⟩)),⟨[],[]⟩)
else
 callK (vr 116 0 [.buf 0] ⟨[(0, .arr true 1 (A || true) (B++([.int .u8 (IntKind.u8.wrap (IntKind.u64.wrap ((48:Int)+(Int.tmod u4 10))))]:List T)))],[]⟩) fun a b=>asTup a fun c=>endV c <| consB 0 b fun a c=>asArr 1 a fun b d=>endB c <| needC ((1==1) &&d.all isByte) fun _=>some ((.t (.str ⟨(d.map byteT).toArray⟩)),⟨[],[]⟩))
else
 L103_5 (n0) ((IntKind.u64.wrap (Int.tdiv u4 10))) ((A || true)) ((B++([.int .u8 (IntKind.u8.wrap (IntKind.u64.wrap ((48:Int)+(Int.tmod u4 10))))]:List T))))
theorem L103_5g(KL103_5:Env→St→Option Res)(n0 u4:Int)(A:Bool)(B:List T) :WL103_5 (fun e st=>gP 103 0 31 Try.f103 (Ta103 KL103_5) (.lp::PaL103_5) e st) n0 u4 A B=RL103_5 (WL103_5 KL103_5) n0 u4 A B:=by kernel_rfl
theorem L103_5_eq(n0 u4:Int)(A:Bool)(B:List T) :L103_5 n0 u4 A B=RL103_5 L103_5 n0 u4 A B:=
 (congrArg (fun k=>WL103_5 k n0 u4 A B) (funext fun e=>funext fun st=>round_eq Try.prog hint (b:=(nav (List.reverse (.lp::PaL103_5)) (bodyOf Try.f103))) (fn:=Try.f103) (nt:=31) (T:=(Ta103 VL103_5)) [PaL103_5] rfl PaL103_5 e st rfl rfl rfl)).trans (L103_5g VL103_5 n0 u4 A B)
noncomputable def R56(A:Int)(B:Bool)(C:List T) :Option Res:=callK (vr 103 0 [.t (.int .i64 A)] ⟨[],[]⟩) fun a b=>asT a fun c=>asS c fun a=>endB b <| needC (decide ((C.length+1)*(32+1)≤70368744177664) &&decide (32≤1048576)) fun _=>some ((.tup []),⟨[(0, .var [.buf 500]),(500, .arr true 3 (B || true) (C++([.agg [.int .i64 2, .str a, .int .i64 A]]:List T)))],[500,501]⟩)
theorem eq56g(A:Int)(B:Bool)(C:List T) :gE 56 0 17 Try.f56 [] [.ptr 0 0 0, .t (.int .i64 A)] ⟨[(0, .var [.buf 1]),(1, .arr true 3 B C)],[]⟩=R56 A B C:=by kernel_rfl
theorem eq56(A:Int)(B:Bool)(C:List T) :vr 56 0 [.ptr 0 0 0, .t (.int .i64 A)] ⟨[(0, .var [.buf 1]),(1, .arr true 3 B C)],[]⟩=R56 A B C:=
 Eq.trans (call_eq Try.prog hint (fn:=Try.f56) (nt:=17) (T:=[]) [] rfl _ _ rfl rfl rfl rfl rfl) (eq56g A B C)
noncomputable def R55(L55_2:YL55_2)(A:Bool)(B:List T)(C:Bool)(D:List T) :Option Res:=callK (vr 57 0 [.ptr 0 0 0, .t (.str ⟨#[91]⟩)] (Z4 C D)) fun a b=>asTup a fun c=>endV c <| consB 0 b fun a c=>asVar a fun b=>consV b fun a d=>isBuf 500 a <| endV d <| consB 500 c fun a b=>asArr 3 a fun c d=>endB b <| L55_2 (A) (B) ((B.length:Int)) (0) (c) (d)
theorem eq55g(KL55_2:Env→St→Option Res)(A:Bool)(B:List T)(C:Bool)(D:List T) :gE 55 0 27 Try.f55 (Ta55 KL55_2) [.ptr 0 0 0, .t (.list 1 A B), .fn 56 [.ptr 0 0 0] []] ⟨[(0, .var [.buf 1]),(1, .arr true 3 C D)],[]⟩=R55 (WL55_2 KL55_2) A B C D:=by kernel_rfl
theorem eq55(A:Bool)(B:List T)(C:Bool)(D:List T) :vr 55 0 [.ptr 0 0 0, .t (.list 1 A B), .fn 56 [.ptr 0 0 0] []] ⟨[(0, .var [.buf 1]),(1, .arr true 3 C D)],[]⟩=R55 L55_2 A B C D:=
 Eq.trans (call_eq Try.prog hint (fn:=Try.f55) (nt:=27) (T:=(Ta55 VL55_2)) [PaL55_2] rfl _ _ rfl rfl rfl rfl rfl) (eq55g VL55_2 A B C D)
noncomputable def RL55_2(L55_2:YL55_2)(A:Bool)(B:List T)(C D:Int)(E:Bool)(F:List T) :Option Res:=
(bif (decide (D<C)) then
 needC (decide (0≤D)) fun _=>getT B (D).toNat fun a=>asI .i64 a fun b=>
(bif (decide (0<D)) then
 callK (vr 57 0 [.ptr 0 0 0, .t (.str ⟨#[44]⟩)] (Z4 E F)) fun a c=>asTup a fun d=>endV d <| consB 0 c fun a d=>asVar a fun c=>consV c fun a f=>isBuf 500 a <| endV f <| consB 500 d fun a c=>asArr 3 a fun d f=>endB c <| callK (vr 56 0 [.ptr 0 0 0, .t (.int .i64 b)] (Z4 d f)) fun a c=>asTup a fun d=>endV d <| consB 0 c fun a d=>asVar a fun c=>consV c fun a f=>isBuf 500 a <| endV f <| consB 500 d fun a c=>asArr 3 a fun d f=>endB c <| L55_2 (A) (B) (C) ((IntKind.i64.wrap (D+1))) (d) (f)
else
 callK (vr 56 0 [.ptr 0 0 0, .t (.int .i64 b)] (Z4 E F)) fun a c=>asTup a fun b=>endV b <| consB 0 c fun a b=>asVar a fun c=>consV c fun a d=>isBuf 500 a <| endV d <| consB 500 b fun a c=>asArr 3 a fun b d=>endB c <| L55_2 (A) (B) (C) ((IntKind.i64.wrap (D+1))) (b) (d))
else
 callK (vr 57 0 [.ptr 0 0 0, .t (.str ⟨#[93]⟩)] (Z4 E F)) fun a b=>asTup a fun c=>endV c <| consB 0 b fun a c=>asVar a fun b=>consV b fun a d=>isBuf 500 a <| endV d <| consB 500 c fun a b=>asArr 3 a fun c d=>endB b <| some ((.tup []),⟨[(0, .var [.buf 500]),(500, .arr true 3 c d)],[500,501]⟩))
theorem L55_2g(KL55_2:Env→St→Option Res)(A:Bool)(B:List T)(C D:Int)(E:Bool)(F:List T) :WL55_2 (fun e st=>gP 55 0 27 Try.f55 (Ta55 KL55_2) (.lp::PaL55_2) e st) A B C D E F=RL55_2 (WL55_2 KL55_2) A B C D E F:=by kernel_rfl
theorem L55_2_eq(A:Bool)(B:List T)(C D:Int)(E:Bool)(F:List T) :L55_2 A B C D E F=RL55_2 L55_2 A B C D E F:=
 (congrArg (fun k=>WL55_2 k A B C D E F) (funext fun e=>funext fun st=>round_eq Try.prog hint (b:=(nav (List.reverse (.lp::PaL55_2)) (bodyOf Try.f55))) (fn:=Try.f55) (nt:=27) (T:=(Ta55 VL55_2)) [PaL55_2] rfl PaL55_2 e st rfl rfl rfl)).trans (L55_2g VL55_2 A B C D E F)
noncomputable def R58(L58_2:YL58_2)(A:Bool)(B:List T)(C:Bool)(D:List T) :Option Res:=callK (vr 57 0 [.ptr 0 0 0, .t (.str ⟨#[91]⟩)] (Z4 C D)) fun a b=>asTup a fun c=>endV c <| consB 0 b fun a c=>asVar a fun b=>consV b fun a d=>isBuf 500 a <| endV d <| consB 500 c fun a b=>asArr 3 a fun c d=>endB b <| L58_2 (A) (B) ((B.length:Int)) (0) (c) (d)
theorem eq58g(KL58_2:Env→St→Option Res)(A:Bool)(B:List T)(C:Bool)(D:List T) :gE 58 0 27 Try.f58 (Ta58 KL58_2) [.ptr 0 0 0, .t (.list 1 A B), .fn 54 [.ptr 0 0 0] []] ⟨[(0, .var [.buf 1]),(1, .arr true 3 C D)],[]⟩=R58 (WL58_2 KL58_2) A B C D:=by kernel_rfl
theorem eq58(A:Bool)(B:List T)(C:Bool)(D:List T) :vr 58 0 [.ptr 0 0 0, .t (.list 1 A B), .fn 54 [.ptr 0 0 0] []] ⟨[(0, .var [.buf 1]),(1, .arr true 3 C D)],[]⟩=R58 L58_2 A B C D:=
 Eq.trans (call_eq Try.prog hint (fn:=Try.f58) (nt:=27) (T:=(Ta58 VL58_2)) [PaL58_2] rfl _ _ rfl rfl rfl rfl rfl) (eq58g VL58_2 A B C D)
noncomputable def RL58_2(L58_2:YL58_2)(A:Bool)(B:List T)(C D:Int)(E:Bool)(F:List T) :Option Res:=
(bif (decide (D<C)) then
 needC (decide (0≤D)) fun _=>getT B (D).toNat fun a=>asS a fun b=>
(bif (decide (0<D)) then
 callK (vr 57 0 [.ptr 0 0 0, .t (.str ⟨#[44]⟩)] (Z4 E F)) fun a c=>asTup a fun d=>endV d <| consB 0 c fun a d=>asVar a fun c=>consV c fun a f=>isBuf 500 a <| endV f <| consB 500 d fun a c=>asArr 3 a fun d f=>endB c <| callK (vr 54 0 [.ptr 0 0 0, .t (.str b)] (Z4 d f)) fun a c=>asTup a fun d=>endV d <| consB 0 c fun a d=>asVar a fun c=>consV c fun a f=>isBuf 500 a <| endV f <| consB 500 d fun a c=>asArr 3 a fun d f=>endB c <| L58_2 (A) (B) (C) ((IntKind.i64.wrap (D+1))) (d) (f)
else
 callK (vr 54 0 [.ptr 0 0 0, .t (.str b)] (Z4 E F)) fun a c=>asTup a fun b=>endV b <| consB 0 c fun a b=>asVar a fun c=>consV c fun a d=>isBuf 500 a <| endV d <| consB 500 b fun a c=>asArr 3 a fun b d=>endB c <| L58_2 (A) (B) (C) ((IntKind.i64.wrap (D+1))) (b) (d))
else
 callK (vr 57 0 [.ptr 0 0 0, .t (.str ⟨#[93]⟩)] (Z4 E F)) fun a b=>asTup a fun c=>endV c <| consB 0 b fun a c=>asVar a fun b=>consV b fun a d=>isBuf 500 a <| endV d <| consB 500 c fun a b=>asArr 3 a fun c d=>endB b <| some ((.tup []),⟨[(0, .var [.buf 500]),(500, .arr true 3 c d)],[500,501]⟩))
theorem L58_2g(KL58_2:Env→St→Option Res)(A:Bool)(B:List T)(C D:Int)(E:Bool)(F:List T) :WL58_2 (fun e st=>gP 58 0 27 Try.f58 (Ta58 KL58_2) (.lp::PaL58_2) e st) A B C D E F=RL58_2 (WL58_2 KL58_2) A B C D E F:=by kernel_rfl
theorem L58_2_eq(A:Bool)(B:List T)(C D:Int)(E:Bool)(F:List T) :L58_2 A B C D E F=RL58_2 L58_2 A B C D E F:=
 (congrArg (fun k=>WL58_2 k A B C D E F) (funext fun e=>funext fun st=>round_eq Try.prog hint (b:=(nav (List.reverse (.lp::PaL58_2)) (bodyOf Try.f58))) (fn:=Try.f58) (nt:=27) (T:=(Ta58 VL58_2)) [PaL58_2] rfl PaL58_2 e st rfl rfl rfl)).trans (L58_2g VL58_2 A B C D E F)
noncomputable def R45(A B:Int)(C:ByteArray)(D:Bool)(E:List T)(F:Bool)(G:List T)(H:Bool)(I:List T) :Option Res:=putC ([]) (.int .i64 3) (.str ⟨#[43]⟩) fun a=>putC a (.int .i64 4) (.str ⟨#[45]⟩) fun b=>putC b (.int .i64 5) (.str ⟨#[42]⟩) fun a=>
(bif (decide (A=1)) then
 callK (vr 56 0 [.ptr 0 0 0, .t (.int .i64 B)] (Z4 H I)) fun b c=>asTup b fun d=>endV d <| consB 0 c fun b d=>asVar b fun c=>consV c fun b f=>isBuf 500 b <| endV f <| consB 500 d fun b c=>asArr 3 b fun d f=>endB c <| some ((.tup []),⟨[(0, .var [.buf 500]),(500, .arr true 3 d f)],[500,501]⟩)
else
(bif (decide (A=2)) then
 callK (vr 54 0 [.ptr 0 0 0, .t (.str C)] (Z4 H I)) fun b c=>asTup b fun d=>endV d <| consB 0 c fun b d=>asVar b fun c=>consV c fun b f=>isBuf 500 b <| endV f <| consB 500 d fun b c=>asArr 3 b fun d f=>endB c <| callK (vr 58 0 [.ptr 0 0 0, .t (.list 1 D E), .fn 54 [.ptr 0 0 0] []] (Z4 d f)) fun b c=>asTup b fun d=>endV d <| consB 0 c fun b d=>asVar b fun c=>consV c fun b f=>isBuf 500 b <| endV f <| consB 500 d fun b c=>asArr 3 b fun d f=>endB c <| some ((.tup []),⟨[(0, .var [.buf 500]),(500, .arr true 3 d f)],[500,501]⟩)
else
(bif (decide (A=6)) then
 callK (vr 57 0 [.ptr 0 0 0, .t (.str ⟨#[45]⟩)] (Z4 H I)) fun b c=>asTup b fun d=>endV d <| consB 0 c fun b d=>asVar b fun c=>consV c fun b f=>isBuf 500 b <| endV f <| consB 500 d fun b c=>asArr 3 b fun d f=>endB c <| needC (decide (0≤0)) fun _=>getT G ((0:Int)).toNat fun b=>D_iisl1l5 b fun c g h i j k l=>callK (vr 45 0 [.ptr 0 0 0, .t (.agg [.int .i64 c, .int .i64 g, .str h, .list 1 i j, .list 5 k l])] (Z4 d f)) fun b m=>asTup b fun c=>endV c <| consB 0 m fun b c=>asVar b fun d=>consV d fun b f=>isBuf 500 b <| endV f <| consB 500 c fun b d=>asArr 3 b fun c f=>
 endB d <| some ((.tup []),⟨[(0, .var [.buf 500]),(500, .arr true 3 c f)],[500,501]⟩)
else
(bif (decide (A=7)) then
 callK (vr 54 0 [.ptr 0 0 0, .t (.str ⟨#[115,117,109]⟩)] (Z4 H I)) fun b c=>asTup b fun d=>endV d <| consB 0 c fun b d=>asVar b fun c=>consV c fun b f=>isBuf 500 b <| endV f <| consB 500 d fun b c=>asArr 3 b fun d f=>endB c <| callK (vr 57 0 [.ptr 0 0 0, .t (.str ⟨#[40]⟩)] (Z4 d f)) fun b c=>asTup b fun d=>endV d <| consB 0 c fun b d=>asVar b fun c=>consV c fun b f=>isBuf 500 b <| endV f <| consB 500 d fun b c=>asArr 3 b fun d f=>endB c <| callK (vr 54 0 [.ptr 0 0 0, .t (.str C)] (Z4 d f)) fun b c=>asTup b fun d=>endV d <| consB 0 c fun b d=>asVar b fun c=>
 consV c fun b f=>isBuf 500 b <| endV f <| consB 500 d fun b c=>asArr 3 b fun d f=>endB c <| callK (vr 57 0 [.ptr 0 0 0, .t (.str ⟨#[44]⟩)] (Z4 d f)) fun b c=>asTup b fun d=>endV d <| consB 0 c fun b d=>asVar b fun c=>consV c fun b f=>isBuf 500 b <| endV f <| consB 500 d fun b c=>asArr 3 b fun d f=>endB c <| needC (decide (0≤0)) fun _=>getT G ((0:Int)).toNat fun b=>D_iisl1l5 b fun c g h i j k l=>callK (vr 45 0 [.ptr 0 0 0, .t (.agg [.int .i64 c, .int .i64 g, .str h, .list 1 i j, .list 5 k l])] (Z4 d f)) fun b m=>asTup b fun c=>endV c <| consB 0 m fun b c=>asVar b fun d=>
 consV d fun b f=>isBuf 500 b <| endV f <| consB 500 c fun b d=>asArr 3 b fun c f=>endB d <| callK (vr 57 0 [.ptr 0 0 0, .t (.str ⟨#[41]⟩)] (Z4 c f)) fun b d=>asTup b fun c=>endV c <| consB 0 d fun b c=>asVar b fun d=>consV d fun b f=>isBuf 500 b <| endV f <| consB 500 c fun b d=>asArr 3 b fun c f=>endB d <| some ((.tup []),⟨[(0, .var [.buf 500]),(500, .arr true 3 c f)],[500,501]⟩)
else
 callK (vr 57 0 [.ptr 0 0 0, .t (.str ⟨#[40]⟩)] (Z4 H I)) fun b c=>asTup b fun d=>endV d <| consB 0 c fun b d=>asVar b fun c=>consV c fun b f=>isBuf 500 b <| endV f <| consB 500 d fun b c=>asArr 3 b fun d f=>endB c <| needC (decide (0≤0)) fun _=>getT G ((0:Int)).toNat fun b=>D_iisl1l5 b fun c g h i j k l=>callK (vr 45 0 [.ptr 0 0 0, .t (.agg [.int .i64 c, .int .i64 g, .str h, .list 1 i j, .list 5 k l])] (Z4 d f)) fun b m=>asTup b fun c=>endV c <| consB 0 m fun b c=>asVar b fun d=>consV d fun b f=>isBuf 500 b <| endV f <| consB 500 c fun b d=>asArr 3 b fun c f=>
 endB d <| lkT a (.int .i64 A) (.str ByteArray.empty) fun b p_185=>asS b fun a=>callK (vr 57 0 [.ptr 0 0 0, .t (.str a)] (Z4 c f)) fun b d=>asTup b fun a=>endV a <| consB 0 d fun a b=>asVar a fun c=>consV c fun a d=>isBuf 500 a <| endV d <| consB 500 b fun a c=>asArr 3 a fun b d=>endB c <| needC (decide (0≤1)) fun _=>getT G ((1:Int)).toNat fun a=>D_iisl1l5 a fun c f g h i j k=>callK (vr 45 0 [.ptr 0 0 0, .t (.agg [.int .i64 c, .int .i64 f, .str g, .list 1 h i, .list 5 j k])] (Z4 b d)) fun a l=>asTup a fun b=>endV b <| consB 0 l fun a b=>asVar a fun c=>consV c fun a d=>
 isBuf 500 a <| endV d <| consB 500 b fun a c=>asArr 3 a fun b d=>endB c <| callK (vr 57 0 [.ptr 0 0 0, .t (.str ⟨#[41]⟩)] (Z4 b d)) fun a c=>asTup a fun b=>endV b <| consB 0 c fun a b=>asVar a fun c=>consV c fun a d=>isBuf 500 a <| endV d <| consB 500 b fun a c=>asArr 3 a fun b d=>endB c <| some ((.tup []),⟨[(0, .var [.buf 500]),(500, .arr true 3 b d)],[500,501]⟩)))))
theorem eq45g(A B:Int)(C:ByteArray)(D:Bool)(E:List T)(F:Bool)(G:List T)(H:Bool)(I:List T) :gE 45 0 79 Try.f45 [] [.ptr 0 0 0, .t (.agg [.int .i64 A, .int .i64 B, .str C, .list 1 D E, .list 5 F G])] ⟨[(0, .var [.buf 1]),(1, .arr true 3 H I)],[]⟩=R45 A B C D E F G H I:=by kernel_rfl
theorem eq45(A B:Int)(C:ByteArray)(D:Bool)(E:List T)(F:Bool)(G:List T)(H:Bool)(I:List T) :vr 45 0 [.ptr 0 0 0, .t (.agg [.int .i64 A, .int .i64 B, .str C, .list 1 D E, .list 5 F G])] ⟨[(0, .var [.buf 1]),(1, .arr true 3 H I)],[]⟩=R45 A B C D E F G H I:=
 Eq.trans (call_eq Try.prog hint (fn:=Try.f45) (nt:=79) (T:=[]) [] rfl _ _ rfl rfl rfl rfl rfl) (eq45g A B C D E F G H I)
noncomputable def R25(L25_6:YL25_6)(L25_18:YL25_18)(A:Bool)(B:List T)(C:Bool)(D:List T) :Option Res:=callK (vr 24 0 [.t (.agg [.list 4 A B, .list 7 C D])] ⟨[],[]⟩) fun a b=>asT a fun c=>asI .i64 c fun a=>endB b <|
(bif (!decide (a=0)) then
 some ((.tup [.t (.str ⟨#[]⟩), .t (.int .i64 a)]),⟨[],[]⟩)
else
 L25_6 (A) (B) ((B.length:Int)) (0) (A) (B) (C) (D) (false) ([]))
theorem eq25g(KL25_6 KL25_18:Env→St→Option Res)(A:Bool)(B:List T)(C:Bool)(D:List T) :gE 25 0 85 Try.f25 (Ta25 KL25_6 KL25_18) [.t (.agg [.list 4 A B, .list 7 C D])] ⟨[],[]⟩=R25 (WL25_6 KL25_6) (WL25_18 KL25_18) A B C D:=by kernel_rfl
theorem eq25(A:Bool)(B:List T)(C:Bool)(D:List T) :vr 25 0 [.t (.agg [.list 4 A B, .list 7 C D])] ⟨[],[]⟩=R25 L25_6 L25_18 A B C D:=
 Eq.trans (call_eq Try.prog hint (fn:=Try.f25) (nt:=85) (T:=(Ta25 VL25_6 VL25_18)) [PaL25_6,PaL25_18] rfl _ _ rfl rfl rfl rfl rfl) (eq25g VL25_6 VL25_18 A B C D)
noncomputable def RL25_6(L25_6:YL25_6)(L25_18:YL25_18)(A:Bool)(B:List T)(C D:Int)(E:Bool)(F:List T)(G:Bool)(H:List T)(I:Bool)(J:List T) :Option Res:=
(bif (decide (D<C)) then
 needC (decide (0≤D)) fun _=>getT B (D).toNat fun a=>D_sl1si a fun b c d f g=>callK (vr 53 0 [.ptr 0 0 0] (Z4 I J)) fun a h=>
(bif fitsH (.tup []) [(0, .var [.buf 500]),(500, .arr 3)] a h then
 asTup a fun i=>endV i <| consB 0 h fun i j=>asVar i fun k=>consV k fun i l=>isBuf 500 i <| endV l <| consB 500 j fun i k=>asArr 3 i fun j l=>endB k <| callK (vr 54 0 [.ptr 0 0 0, .t (.str ⟨#[116,101,110,115,111,114]⟩)] (Z4 j l)) fun i k=>asTup i fun j=>endV j <| consB 0 k fun i j=>asVar i fun k=>consV k fun i l=>isBuf 500 i <| endV l <| consB 500 j fun i k=>asArr 3 i fun j l=>endB k <| callK (vr 54 0 [.ptr 0 0 0, .t (.str b)] (Z4 j l)) fun i k=>asTup i fun j=>endV j <| consB 0 k fun i j=>asVar i fun k=>consV k fun i l=>isBuf 500 i <| endV l <| consB 500 j fun i k=>
 asArr 3 i fun j l=>endB k <| callK (vr 55 0 [.ptr 0 0 0, .t (.list 1 c d), .fn 56 [.ptr 0 0 0] []] (Z4 j l)) fun i k=>asTup i fun j=>endV j <| consB 0 k fun i j=>asVar i fun k=>consV k fun i l=>isBuf 500 i <| endV l <| consB 500 j fun i k=>asArr 3 i fun j l=>endB k <| callK (vr 57 0 [.ptr 0 0 0, .t (.str ⟨#[58]⟩)] (Z4 j l)) fun i k=>asTup i fun j=>endV j <| consB 0 k fun i j=>asVar i fun k=>consV k fun i l=>isBuf 500 i <| endV l <| consB 500 j fun i k=>asArr 3 i fun j l=>endB k <| callK (vr 54 0 [.ptr 0 0 0, .t (.str f)] (Z4 j l)) fun i k=>asTup i fun j=>endV j <|
 consB 0 k fun i j=>asVar i fun k=>consV k fun i l=>isBuf 500 i <| endV l <| consB 500 j fun i k=>asArr 3 i fun j l=>endB k <|
(bif (decide (0<g)) then
 callK (vr 56 0 [.ptr 0 0 0, .t (.int .i64 g)] (Z4 j l)) fun i k=>asTup i fun m=>endV m <| consB 0 k fun i m=>asVar i fun k=>consV k fun i n=>isBuf 500 i <| endV n <| consB 500 m fun i k=>asArr 3 i fun m n=>endB k <| L25_6 (A) (B) (C) ((IntKind.i64.wrap (D+1))) (E) (F) (G) (H) (m) (n)
else
 L25_6 (A) (B) (C) ((IntKind.i64.wrap (D+1))) (E) (F) (G) (H) (j) (l))
else
 asTup a fun i=>endV i <| consB 0 h fun a i=>asVar a fun h=>consV h fun a j=>isBuf 1 a <| endV j <| consB 1 i fun a h=>asArr 3 a fun i j=>endB h <| callK (vr 54 0 [.ptr 0 0 0, .t (.str ⟨#[116,101,110,115,111,114]⟩)] (Z4 i j)) fun a h=>asTup a fun i=>endV i <| consB 0 h fun a i=>asVar a fun h=>consV h fun a j=>isBuf 500 a <| endV j <| consB 500 i fun a h=>asArr 3 a fun i j=>endB h <| callK (vr 54 0 [.ptr 0 0 0, .t (.str b)] (Z4 i j)) fun a h=>asTup a fun b=>endV b <| consB 0 h fun a b=>asVar a fun h=>consV h fun a i=>isBuf 500 a <| endV i <| consB 500 b fun a h=>
 asArr 3 a fun b i=>endB h <| callK (vr 55 0 [.ptr 0 0 0, .t (.list 1 c d), .fn 56 [.ptr 0 0 0] []] (Z4 b i)) fun a h=>asTup a fun b=>endV b <| consB 0 h fun a b=>asVar a fun c=>consV c fun a d=>isBuf 500 a <| endV d <| consB 500 b fun a c=>asArr 3 a fun b d=>endB c <| callK (vr 57 0 [.ptr 0 0 0, .t (.str ⟨#[58]⟩)] (Z4 b d)) fun a c=>asTup a fun b=>endV b <| consB 0 c fun a b=>asVar a fun c=>consV c fun a d=>isBuf 500 a <| endV d <| consB 500 b fun a c=>asArr 3 a fun b d=>endB c <| callK (vr 54 0 [.ptr 0 0 0, .t (.str f)] (Z4 b d)) fun a c=>asTup a fun b=>endV b <|
 consB 0 c fun a b=>asVar a fun c=>consV c fun a d=>isBuf 500 a <| endV d <| consB 500 b fun a c=>asArr 3 a fun b d=>endB c <|
(bif (decide (0<g)) then
 callK (vr 56 0 [.ptr 0 0 0, .t (.int .i64 g)] (Z4 b d)) fun a c=>asTup a fun f=>endV f <| consB 0 c fun a f=>asVar a fun c=>consV c fun a g=>isBuf 500 a <| endV g <| consB 500 f fun a c=>asArr 3 a fun f g=>endB c <| L25_6 (A) (B) (C) ((IntKind.i64.wrap (D+1))) (E) (F) (G) (H) (f) (g)
else
 L25_6 (A) (B) (C) ((IntKind.i64.wrap (D+1))) (E) (F) (G) (H) (b) (d)))
else
 L25_18 (G) (H) ((H.length:Int)) (0) (I) (J))
theorem L25_6g(KL25_6 KL25_18:Env→St→Option Res)(A:Bool)(B:List T)(C D:Int)(E:Bool)(F:List T)(G:Bool)(H:List T)(I:Bool)(J:List T) :WL25_6 (fun e st=>gP 25 0 85 Try.f25 (Ta25 KL25_6 KL25_18) (.lp::PaL25_6) e st) A B C D E F G H I J=RL25_6 (WL25_6 KL25_6) (WL25_18 KL25_18) A B C D E F G H I J:=by kernel_rfl
theorem L25_6_eq(A:Bool)(B:List T)(C D:Int)(E:Bool)(F:List T)(G:Bool)(H:List T)(I:Bool)(J:List T) :L25_6 A B C D E F G H I J=RL25_6 L25_6 L25_18 A B C D E F G H I J:=
 (congrArg (fun k=>WL25_6 k A B C D E F G H I J) (funext fun e=>funext fun st=>round_eq Try.prog hint (b:=(nav (List.reverse (.lp::PaL25_6)) (bodyOf Try.f25))) (fn:=Try.f25) (nt:=85) (T:=(Ta25 VL25_6 VL25_18)) [PaL25_6,PaL25_18] rfl PaL25_6 e st rfl rfl rfl)).trans (L25_6g VL25_6 VL25_18 A B C D E F G H I J)
noncomputable def RL25_18(L25_6:YL25_6)(L25_18:YL25_18)(A:Bool)(B:List T)(C D:Int)(E:Bool)(F:List T) :Option Res:=
(bif (decide (D<C)) then
 needC (decide (0≤D)) fun _=>getT B (D).toNat fun a=>D_sl1iisl1l5 a fun b c d f g h i j k l=>callK (vr 53 0 [.ptr 0 0 0] (Z4 E F)) fun a m=>
(bif fitsH (.tup []) [(0, .var [.buf 500]),(500, .arr 3)] a m then
 asTup a fun n=>endV n <| consB 0 m fun n o=>asVar n fun p=>consV p fun n q=>isBuf 500 n <| endV q <| consB 500 o fun n p=>asArr 3 n fun o q=>endB p <| callK (vr 54 0 [.ptr 0 0 0, .t (.str b)] (Z4 o q)) fun n p=>asTup n fun o=>endV o <| consB 0 p fun n o=>asVar n fun p=>consV p fun n q=>isBuf 500 n <| endV q <| consB 500 o fun n p=>asArr 3 n fun o q=>endB p <| callK (vr 58 0 [.ptr 0 0 0, .t (.list 1 c d), .fn 54 [.ptr 0 0 0] []] (Z4 o q)) fun n p=>asTup n fun o=>endV o <| consB 0 p fun n o=>asVar n fun p=>consV p fun n q=>isBuf 500 n <| endV q <| consB 500 o fun n p=>
 asArr 3 n fun o q=>endB p <| callK (vr 57 0 [.ptr 0 0 0, .t (.str ⟨#[61]⟩)] (Z4 o q)) fun n p=>asTup n fun o=>endV o <| consB 0 p fun n o=>asVar n fun p=>consV p fun n q=>isBuf 500 n <| endV q <| consB 500 o fun n p=>asArr 3 n fun o q=>endB p <| callK (vr 45 0 [.ptr 0 0 0, .t (.agg [.int .i64 f, .int .i64 g, .str h, .list 1 i j, .list 5 k l])] (Z4 o q)) fun n p=>asTup n fun o=>endV o <| consB 0 p fun n o=>asVar n fun p=>consV p fun n q=>isBuf 500 n <| endV q <| consB 500 o fun n p=>asArr 3 n fun o q=>endB p <| L25_18 (A) (B) (C) ((IntKind.i64.wrap (D+1))) (o) (q)
else
 asTup a fun n=>endV n <| consB 0 m fun a n=>asVar a fun m=>consV m fun a o=>isBuf 1 a <| endV o <| consB 1 n fun a m=>asArr 3 a fun n o=>endB m <| callK (vr 54 0 [.ptr 0 0 0, .t (.str b)] (Z4 n o)) fun a m=>asTup a fun b=>endV b <| consB 0 m fun a b=>asVar a fun m=>consV m fun a n=>isBuf 500 a <| endV n <| consB 500 b fun a m=>asArr 3 a fun b n=>endB m <| callK (vr 58 0 [.ptr 0 0 0, .t (.list 1 c d), .fn 54 [.ptr 0 0 0] []] (Z4 b n)) fun a m=>asTup a fun b=>endV b <| consB 0 m fun a b=>asVar a fun c=>consV c fun a d=>isBuf 500 a <| endV d <| consB 500 b fun a c=>
 asArr 3 a fun b d=>endB c <| callK (vr 57 0 [.ptr 0 0 0, .t (.str ⟨#[61]⟩)] (Z4 b d)) fun a c=>asTup a fun b=>endV b <| consB 0 c fun a b=>asVar a fun c=>consV c fun a d=>isBuf 500 a <| endV d <| consB 500 b fun a c=>asArr 3 a fun b d=>endB c <| callK (vr 45 0 [.ptr 0 0 0, .t (.agg [.int .i64 f, .int .i64 g, .str h, .list 1 i j, .list 5 k l])] (Z4 b d)) fun a c=>asTup a fun b=>endV b <| consB 0 c fun a b=>asVar a fun c=>consV c fun a d=>isBuf 500 a <| endV d <| consB 500 b fun a c=>asArr 3 a fun b d=>endB c <| L25_18 (A) (B) (C) ((IntKind.i64.wrap (D+1))) (b) (d))
else
 callK (vr 46 0 [.t (.list 3 E F)] ⟨[],[]⟩) fun a b=>asTup a fun c=>consV c fun a d=>asT a fun c=>asS c fun a=>consV d fun c f=>asT c fun d=>asI .i64 d fun c=>endV f <| endB b <| some ((.tup [.t (.str a), .t (.int .i64 c)]),⟨[],[]⟩))
theorem L25_18g(KL25_6 KL25_18:Env→St→Option Res)(A:Bool)(B:List T)(C D:Int)(E:Bool)(F:List T) :WL25_18 (fun e st=>gP 25 0 85 Try.f25 (Ta25 KL25_6 KL25_18) (.lp::PaL25_18) e st) A B C D E F=RL25_18 (WL25_6 KL25_6) (WL25_18 KL25_18) A B C D E F:=by kernel_rfl
theorem L25_18_eq(A:Bool)(B:List T)(C D:Int)(E:Bool)(F:List T) :L25_18 A B C D E F=RL25_18 L25_6 L25_18 A B C D E F:=
 (congrArg (fun k=>WL25_18 k A B C D E F) (funext fun e=>funext fun st=>round_eq Try.prog hint (b:=(nav (List.reverse (.lp::PaL25_18)) (bodyOf Try.f25))) (fn:=Try.f25) (nt:=85) (T:=(Ta25 VL25_6 VL25_18)) [PaL25_6,PaL25_18] rfl PaL25_18 e st rfl rfl rfl)).trans (L25_18g VL25_6 VL25_18 A B C D E F)
noncomputable def R61(L61_4:YL61_4)(A:Bool)(B:List T)(C:Bool)(D:List T) :Option Res:=
(bif (!decide ((B.length:Int)=(D.length:Int))) then
 some ((.t (.bool false)),⟨[],[]⟩)
else
 L61_4 (A) (B) (C) (D) ((B.length:Int)) (0))
theorem eq61g(KL61_4:Env→St→Option Res)(A:Bool)(B:List T)(C:Bool)(D:List T) :gE 61 0 26 Try.f61 (Ta61 KL61_4) [.t (.list 1 A B), .t (.list 1 C D)] ⟨[],[]⟩=R61 (WL61_4 KL61_4) A B C D:=by kernel_rfl
theorem eq61(A:Bool)(B:List T)(C:Bool)(D:List T) :vr 61 0 [.t (.list 1 A B), .t (.list 1 C D)] ⟨[],[]⟩=R61 L61_4 A B C D:=
 Eq.trans (call_eq Try.prog hint (fn:=Try.f61) (nt:=26) (T:=(Ta61 VL61_4)) [PaL61_4] rfl _ _ rfl rfl rfl rfl rfl) (eq61g VL61_4 A B C D)
noncomputable def RL61_4(L61_4:YL61_4)(s10z:Bool)(s10:List T)(s21z:Bool)(s21:List T)(A B:Int) :Option Res:=
(bif (decide (B<A)) then
 needC (decide (0≤B)) fun _=>getT s10 (B).toNat fun a=>asI .i64 a fun b=>needC (decide (0≤B)) fun _=>getT s21 (B).toNat fun a=>asI .i64 a fun c=>
(bif (!decide (b=c)) then
 some ((.t (.bool false)),⟨[],[]⟩)
else
 L61_4 (s10z) (s10) (s21z) (s21) (A) ((IntKind.i64.wrap (B+1))))
else
 some ((.t (.bool true)),⟨[],[]⟩))
theorem L61_4g(KL61_4:Env→St→Option Res)(s10z:Bool)(s10:List T)(s21z:Bool)(s21:List T)(A B:Int) :WL61_4 (fun e st=>gP 61 0 26 Try.f61 (Ta61 KL61_4) (.lp::PaL61_4) e st) s10z s10 s21z s21 A B=RL61_4 (WL61_4 KL61_4) s10z s10 s21z s21 A B:=by kernel_rfl
theorem L61_4_eq(s10z:Bool)(s10:List T)(s21z:Bool)(s21:List T)(A B:Int) :L61_4 s10z s10 s21z s21 A B=RL61_4 L61_4 s10z s10 s21z s21 A B:=
 (congrArg (fun k=>WL61_4 k s10z s10 s21z s21 A B) (funext fun e=>funext fun st=>round_eq Try.prog hint (b:=(nav (List.reverse (.lp::PaL61_4)) (bodyOf Try.f61))) (fn:=Try.f61) (nt:=26) (T:=(Ta61 VL61_4)) [PaL61_4] rfl PaL61_4 e st rfl rfl rfl)).trans (L61_4g VL61_4 s10z s10 s21z s21 A B)
noncomputable def R60(A:ByteArray)(B:Bool)(C:List T)(D:ByteArray)(E:Int)(F:ByteArray)(G:Bool)(H:List T)(I:ByteArray)(J:Int) :Option Res:=
(bif (decide ((A:ByteArray)=F)) then
(bif (decide ((D:ByteArray)=I)) then
(bif (decide (E=J)) then
 callK (vr 61 0 [.t (.list 1 B C), .t (.list 1 G H)] ⟨[],[]⟩) fun a b=>asT a fun c=>asB c fun a=>endB b <| some ((.t (.bool a)),⟨[],[]⟩)
else
 some ((.t (.bool false)),⟨[],[]⟩))
else
 some ((.t (.bool false)),⟨[],[]⟩))
else
 some ((.t (.bool false)),⟨[],[]⟩))
theorem eq60g(A:ByteArray)(B:Bool)(C:List T)(D:ByteArray)(E:Int)(F:ByteArray)(G:Bool)(H:List T)(I:ByteArray)(J:Int) :gE 60 0 31 Try.f60 [] [.t (.agg [.str A, .list 1 B C, .str D, .int .i64 E]), .t (.agg [.str F, .list 1 G H, .str I, .int .i64 J])] ⟨[],[]⟩=R60 A B C D E F G H I J:=by kernel_rfl
theorem eq60(A:ByteArray)(B:Bool)(C:List T)(D:ByteArray)(E:Int)(F:ByteArray)(G:Bool)(H:List T)(I:ByteArray)(J:Int) :vr 60 0 [.t (.agg [.str A, .list 1 B C, .str D, .int .i64 E]), .t (.agg [.str F, .list 1 G H, .str I, .int .i64 J])] ⟨[],[]⟩=R60 A B C D E F G H I J:=
 Eq.trans (call_eq Try.prog hint (fn:=Try.f60) (nt:=31) (T:=[]) [] rfl _ _ rfl rfl rfl rfl rfl) (eq60g A B C D E F G H I J)
noncomputable def R59(L59_4:YL59_4)(A:Bool)(B:List T)(C:Bool)(D:List T) :Option Res:=
(bif (!decide ((B.length:Int)=(D.length:Int))) then
 some ((.t (.bool false)),⟨[],[]⟩)
else
 L59_4 (C) (D) (A) (B) ((B.length:Int)) (0))
theorem eq59g(KL59_4:Env→St→Option Res)(A:Bool)(B:List T)(C:Bool)(D:List T) :gE 59 0 32 Try.f59 (Ta59 KL59_4) [.t (.list 4 A B), .t (.list 4 C D), .fn 60 [] []] ⟨[],[]⟩=R59 (WL59_4 KL59_4) A B C D:=by kernel_rfl
theorem eq59(A:Bool)(B:List T)(C:Bool)(D:List T) :vr 59 0 [.t (.list 4 A B), .t (.list 4 C D), .fn 60 [] []] ⟨[],[]⟩=R59 L59_4 A B C D:=
 Eq.trans (call_eq Try.prog hint (fn:=Try.f59) (nt:=32) (T:=(Ta59 VL59_4)) [PaL59_4] rfl _ _ rfl rfl rfl rfl rfl) (eq59g VL59_4 A B C D)
noncomputable def RL59_4(L59_4:YL59_4)(s21z:Bool)(s21:List T)(A:Bool)(B:List T)(C D:Int) :Option Res:=
(bif (decide (D<C)) then
 needC (decide (0≤D)) fun _=>getT B (D).toNat fun a=>asA a fun b=>consT b fun a c=>asS a fun b=>consT c fun a d=>asL 1 a fun c f=>consT d fun a g=>asS a fun d=>consT g fun a h=>asI .i64 a fun g=>endT h <| needC (decide (0≤D)) fun _=>getT s21 (D).toNat fun a=>asA a fun h=>consT h fun a i=>asS a fun h=>consT i fun a j=>asL 1 a fun i k=>consT j fun a l=>asS a fun j=>consT l fun a m=>asI .i64 a fun l=>endT m <| callK (vr 60 0 [.t (.agg [.str b, .list 1 c f, .str d, .int .i64 g]), .t (.agg [.str h, .list 1 i k, .str j, .int .i64 l])] ⟨[],[]⟩) fun a m=>
 asT a fun b=>asB b fun a=>endB m <|
(bif (!a) then
 some ((.t (.bool false)),⟨[],[]⟩)
else
 L59_4 (s21z) (s21) (A) (B) (C) ((IntKind.i64.wrap (D+1))))
else
 some ((.t (.bool true)),⟨[],[]⟩))
theorem L59_4g(KL59_4:Env→St→Option Res)(s21z:Bool)(s21:List T)(A:Bool)(B:List T)(C D:Int) :WL59_4 (fun e st=>gP 59 0 32 Try.f59 (Ta59 KL59_4) (.lp::PaL59_4) e st) s21z s21 A B C D=RL59_4 (WL59_4 KL59_4) s21z s21 A B C D:=by kernel_rfl
theorem L59_4_eq(s21z:Bool)(s21:List T)(A:Bool)(B:List T)(C D:Int) :L59_4 s21z s21 A B C D=RL59_4 L59_4 s21z s21 A B C D:=
 (congrArg (fun k=>WL59_4 k s21z s21 A B C D) (funext fun e=>funext fun st=>round_eq Try.prog hint (b:=(nav (List.reverse (.lp::PaL59_4)) (bodyOf Try.f59))) (fn:=Try.f59) (nt:=32) (T:=(Ta59 VL59_4)) [PaL59_4] rfl PaL59_4 e st rfl rfl rfl)).trans (L59_4g VL59_4 s21z s21 A B C D)
noncomputable def R47(L47_4:YL47_4)(A:Bool)(B:List T)(C:Bool)(D:List T) :Option Res:=
(bif (!decide ((B.length:Int)=(D.length:Int))) then
 some ((.t (.bool false)),⟨[],[]⟩)
else
 L47_4 (A) (B) (C) (D) ((B.length:Int)) (0))
theorem eq47g(KL47_4:Env→St→Option Res)(A:Bool)(B:List T)(C:Bool)(D:List T) :gE 47 0 26 Try.f47 (Ta47 KL47_4) [.t (.list 1 A B), .t (.list 1 C D)] ⟨[],[]⟩=R47 (WL47_4 KL47_4) A B C D:=by kernel_rfl
theorem eq47(A:Bool)(B:List T)(C:Bool)(D:List T) :vr 47 0 [.t (.list 1 A B), .t (.list 1 C D)] ⟨[],[]⟩=R47 L47_4 A B C D:=
 Eq.trans (call_eq Try.prog hint (fn:=Try.f47) (nt:=26) (T:=(Ta47 VL47_4)) [PaL47_4] rfl _ _ rfl rfl rfl rfl rfl) (eq47g VL47_4 A B C D)
noncomputable def RL47_4(L47_4:YL47_4)(s10z:Bool)(s10:List T)(s21z:Bool)(s21:List T)(A B:Int) :Option Res:=
(bif (decide (B<A)) then
 needC (decide (0≤B)) fun _=>getT s10 (B).toNat fun a=>asS a fun b=>needC (decide (0≤B)) fun _=>getT s21 (B).toNat fun a=>asS a fun c=>
(bif (!decide ((b:ByteArray)=c)) then
 some ((.t (.bool false)),⟨[],[]⟩)
else
 L47_4 (s10z) (s10) (s21z) (s21) (A) ((IntKind.i64.wrap (B+1))))
else
 some ((.t (.bool true)),⟨[],[]⟩))
theorem L47_4g(KL47_4:Env→St→Option Res)(s10z:Bool)(s10:List T)(s21z:Bool)(s21:List T)(A B:Int) :WL47_4 (fun e st=>gP 47 0 26 Try.f47 (Ta47 KL47_4) (.lp::PaL47_4) e st) s10z s10 s21z s21 A B=RL47_4 (WL47_4 KL47_4) s10z s10 s21z s21 A B:=by kernel_rfl
theorem L47_4_eq(s10z:Bool)(s10:List T)(s21z:Bool)(s21:List T)(A B:Int) :L47_4 s10z s10 s21z s21 A B=RL47_4 L47_4 s10z s10 s21z s21 A B:=
 (congrArg (fun k=>WL47_4 k s10z s10 s21z s21 A B) (funext fun e=>funext fun st=>round_eq Try.prog hint (b:=(nav (List.reverse (.lp::PaL47_4)) (bodyOf Try.f47))) (fn:=Try.f47) (nt:=26) (T:=(Ta47 VL47_4)) [PaL47_4] rfl PaL47_4 e st rfl rfl rfl)).trans (L47_4g VL47_4 s10z s10 s21z s21 A B)
noncomputable def R48(L48_4:YL48_4)(A:Bool)(B:List T)(C:Bool)(D:List T) :Option Res:=
(bif (!decide ((B.length:Int)=(D.length:Int))) then
 some ((.t (.bool false)),⟨[],[]⟩)
else
 L48_4 (C) (D) (A) (B) ((B.length:Int)) (0))
theorem eq48g(KL48_4:Env→St→Option Res)(A:Bool)(B:List T)(C:Bool)(D:List T) :gE 48 0 32 Try.f48 (Ta48 KL48_4) [.t (.list 5 A B), .t (.list 5 C D), .fn 23 [] []] ⟨[],[]⟩=R48 (WL48_4 KL48_4) A B C D:=by kernel_rfl
theorem eq48(A:Bool)(B:List T)(C:Bool)(D:List T) :vr 48 0 [.t (.list 5 A B), .t (.list 5 C D), .fn 23 [] []] ⟨[],[]⟩=R48 L48_4 A B C D:=
 Eq.trans (call_eq Try.prog hint (fn:=Try.f48) (nt:=32) (T:=(Ta48 VL48_4)) [PaL48_4] rfl _ _ rfl rfl rfl rfl rfl) (eq48g VL48_4 A B C D)
noncomputable def RL48_4(L48_4:YL48_4)(s21z:Bool)(s21:List T)(A:Bool)(B:List T)(C D:Int) :Option Res:=
(bif (decide (D<C)) then
 needC (decide (0≤D)) fun _=>getT B (D).toNat fun a=>asA a fun b=>consT b fun a c=>asI .i64 a fun b=>consT c fun a d=>asI .i64 a fun c=>consT d fun a f=>asS a fun d=>consT f fun a g=>asL 1 a fun f h=>consT g fun a i=>asL 5 a fun g j=>endT i <| needC (decide (0≤D)) fun _=>getT s21 (D).toNat fun a=>asA a fun i=>consT i fun a k=>asI .i64 a fun i=>consT k fun a l=>asI .i64 a fun k=>consT l fun a m=>asS a fun l=>consT m fun a n=>asL 1 a fun m o=>consT n fun a p=>asL 5 a fun n q=>endT p <| callK (vr 23 0 [.t (.agg [.int .i64 b, .int .i64 c, .str d, .list 1 f h, .list 5 g j]), .t (.agg [.int .i64 i, .int .i64 k, .str l, .list 1 m o, .list 5 n q])] ⟨[],[]⟩) fun a p=>
 asT a fun b=>asB b fun a=>endB p <|
(bif (!a) then
 some ((.t (.bool false)),⟨[],[]⟩)
else
 L48_4 (s21z) (s21) (A) (B) (C) ((IntKind.i64.wrap (D+1))))
else
 some ((.t (.bool true)),⟨[],[]⟩))
theorem L48_4g(KL48_4:Env→St→Option Res)(s21z:Bool)(s21:List T)(A:Bool)(B:List T)(C D:Int) :WL48_4 (fun e st=>gP 48 0 32 Try.f48 (Ta48 KL48_4) (.lp::PaL48_4) e st) s21z s21 A B C D=RL48_4 (WL48_4 KL48_4) s21z s21 A B C D:=by kernel_rfl
theorem L48_4_eq(s21z:Bool)(s21:List T)(A:Bool)(B:List T)(C D:Int) :L48_4 s21z s21 A B C D=RL48_4 L48_4 s21z s21 A B C D:=
 (congrArg (fun k=>WL48_4 k s21z s21 A B C D) (funext fun e=>funext fun st=>round_eq Try.prog hint (b:=(nav (List.reverse (.lp::PaL48_4)) (bodyOf Try.f48))) (fn:=Try.f48) (nt:=32) (T:=(Ta48 VL48_4)) [PaL48_4] rfl PaL48_4 e st rfl rfl rfl)).trans (L48_4g VL48_4 s21z s21 A B C D)
noncomputable def R23(A B:Int)(C:ByteArray)(D:Bool)(E:List T)(F:Bool)(G:List T)(H I:Int)(J:ByteArray)(K:Bool)(L:List T)(M:Bool)(N:List T) :Option Res:=
(bif (decide (A=H)) then
(bif (decide (B=I)) then
(bif (decide ((C:ByteArray)=J)) then
 callK (vr 47 0 [.t (.list 1 D E), .t (.list 1 K L)] ⟨[],[]⟩) fun a b=>asT a fun c=>asB c fun a=>endB b <|
(bif a then
 callK (vr 48 0 [.t (.list 5 F G), .t (.list 5 M N), .fn 23 [] []] ⟨[],[]⟩) fun a b=>asT a fun c=>asB c fun a=>endB b <| some ((.t (.bool a)),⟨[],[]⟩)
else
 some ((.t (.bool false)),⟨[],[]⟩))
else
 some ((.t (.bool false)),⟨[],[]⟩))
else
 some ((.t (.bool false)),⟨[],[]⟩))
else
 some ((.t (.bool false)),⟨[],[]⟩))
theorem eq23g(A B:Int)(C:ByteArray)(D:Bool)(E:List T)(F:Bool)(G:List T)(H I:Int)(J:ByteArray)(K:Bool)(L:List T)(M:Bool)(N:List T) :gE 23 0 38 Try.f23 [] [.t (.agg [.int .i64 A, .int .i64 B, .str C, .list 1 D E, .list 5 F G]), .t (.agg [.int .i64 H, .int .i64 I, .str J, .list 1 K L, .list 5 M N])] ⟨[],[]⟩=R23 A B C D E F G H I J K L M N:=by kernel_rfl
theorem eq23(A B:Int)(C:ByteArray)(D:Bool)(E:List T)(F:Bool)(G:List T)(H I:Int)(J:ByteArray)(K:Bool)(L:List T)(M:Bool)(N:List T) :vr 23 0 [.t (.agg [.int .i64 A, .int .i64 B, .str C, .list 1 D E, .list 5 F G]), .t (.agg [.int .i64 H, .int .i64 I, .str J, .list 1 K L, .list 5 M N])] ⟨[],[]⟩=R23 A B C D E F G H I J K L M N:=
 Eq.trans (call_eq Try.prog hint (fn:=Try.f23) (nt:=38) (T:=[]) [] rfl _ _ rfl rfl rfl rfl rfl) (eq23g A B C D E F G H I J K L M N)
noncomputable def R63(A:ByteArray)(B:Bool)(C:List T)(D E:Int)(F:ByteArray)(G:Bool)(H:List T)(I:Bool)(J:List T)(K:ByteArray)(L:Bool)(M:List T)(N O:Int)(P:ByteArray)(Q:Bool)(R:List T)(S:Bool)(U:List T) :Option Res:=
(bif (decide ((A:ByteArray)=K)) then
 callK (vr 47 0 [.t (.list 1 B C), .t (.list 1 L M)] ⟨[],[]⟩) fun a b=>asT a fun c=>asB c fun a=>endB b <|
(bif a then
 callK (vr 23 0 [.t (.agg [.int .i64 D, .int .i64 E, .str F, .list 1 G H, .list 5 I J]), .t (.agg [.int .i64 N, .int .i64 O, .str P, .list 1 Q R, .list 5 S U])] ⟨[],[]⟩) fun a b=>asT a fun c=>asB c fun a=>endB b <| some ((.t (.bool a)),⟨[],[]⟩)
else
 some ((.t (.bool false)),⟨[],[]⟩))
else
 some ((.t (.bool false)),⟨[],[]⟩))
theorem eq63g(A:ByteArray)(B:Bool)(C:List T)(D E:Int)(F:ByteArray)(G:Bool)(H:List T)(I:Bool)(J:List T)(K:ByteArray)(L:Bool)(M:List T)(N O:Int)(P:ByteArray)(Q:Bool)(R:List T)(S:Bool)(U:List T) :gE 63 0 24 Try.f63 [] [.t (.agg [.str A, .list 1 B C, .int .i64 D, .int .i64 E, .str F, .list 1 G H, .list 5 I J]), .t (.agg [.str K, .list 1 L M, .int .i64 N, .int .i64 O, .str P, .list 1 Q R, .list 5 S U])] ⟨[],[]⟩=R63 A B C D E F G H I J K L M N O P Q R S U:=by kernel_rfl
theorem eq63(A:ByteArray)(B:Bool)(C:List T)(D E:Int)(F:ByteArray)(G:Bool)(H:List T)(I:Bool)(J:List T)(K:ByteArray)(L:Bool)(M:List T)(N O:Int)(P:ByteArray)(Q:Bool)(R:List T)(S:Bool)(U:List T) :vr 63 0 [.t (.agg [.str A, .list 1 B C, .int .i64 D, .int .i64 E, .str F, .list 1 G H, .list 5 I J]), .t (.agg [.str K, .list 1 L M, .int .i64 N, .int .i64 O, .str P, .list 1 Q R, .list 5 S U])] ⟨[],[]⟩=R63 A B C D E F G H I J K L M N O P Q R S U:=
 Eq.trans (call_eq Try.prog hint (fn:=Try.f63) (nt:=24) (T:=[]) [] rfl _ _ rfl rfl rfl rfl rfl) (eq63g A B C D E F G H I J K L M N O P Q R S U)
noncomputable def R62(L62_4:YL62_4)(A:Bool)(B:List T)(C:Bool)(D:List T) :Option Res:=
(bif (!decide ((B.length:Int)=(D.length:Int))) then
 some ((.t (.bool false)),⟨[],[]⟩)
else
 L62_4 (C) (D) (A) (B) ((B.length:Int)) (0))
theorem eq62g(KL62_4:Env→St→Option Res)(A:Bool)(B:List T)(C:Bool)(D:List T) :gE 62 0 32 Try.f62 (Ta62 KL62_4) [.t (.list 7 A B), .t (.list 7 C D), .fn 63 [] []] ⟨[],[]⟩=R62 (WL62_4 KL62_4) A B C D:=by kernel_rfl
theorem eq62(A:Bool)(B:List T)(C:Bool)(D:List T) :vr 62 0 [.t (.list 7 A B), .t (.list 7 C D), .fn 63 [] []] ⟨[],[]⟩=R62 L62_4 A B C D:=
 Eq.trans (call_eq Try.prog hint (fn:=Try.f62) (nt:=32) (T:=(Ta62 VL62_4)) [PaL62_4] rfl _ _ rfl rfl rfl rfl rfl) (eq62g VL62_4 A B C D)
noncomputable def RL62_4(L62_4:YL62_4)(s21z:Bool)(s21:List T)(A:Bool)(B:List T)(C D:Int) :Option Res:=
(bif (decide (D<C)) then
 needC (decide (0≤D)) fun _=>getT B (D).toNat fun a=>asA a fun b=>consT b fun a c=>asS a fun b=>consT c fun a d=>asL 1 a fun c f=>consT d fun a g=>asI .i64 a fun d=>consT g fun a h=>asI .i64 a fun g=>consT h fun a i=>asS a fun h=>consT i fun a j=>asL 1 a fun i k=>consT j fun a l=>asL 5 a fun j m=>endT l <| needC (decide (0≤D)) fun _=>getT s21 (D).toNat fun a=>asA a fun l=>consT l fun a n=>asS a fun l=>consT n fun a o=>asL 1 a fun n p=>consT o fun a q=>asI .i64 a fun o=>consT q fun a r=>asI .i64 a fun q=>consT r fun a s=>asS a fun r=>
 consT s fun a t=>asL 1 a fun s u=>consT t fun a v=>asL 5 a fun t w=>endT v <| callK (vr 63 0 [.t (.agg [.str b, .list 1 c f, .int .i64 d, .int .i64 g, .str h, .list 1 i k, .list 5 j m]), .t (.agg [.str l, .list 1 n p, .int .i64 o, .int .i64 q, .str r, .list 1 s u, .list 5 t w])] ⟨[],[]⟩) fun a v=>asT a fun b=>asB b fun a=>endB v <|
(bif (!a) then
 some ((.t (.bool false)),⟨[],[]⟩)
else
 L62_4 (s21z) (s21) (A) (B) (C) ((IntKind.i64.wrap (D+1))))
else
 some ((.t (.bool true)),⟨[],[]⟩))
theorem L62_4g(KL62_4:Env→St→Option Res)(s21z:Bool)(s21:List T)(A:Bool)(B:List T)(C D:Int) :WL62_4 (fun e st=>gP 62 0 32 Try.f62 (Ta62 KL62_4) (.lp::PaL62_4) e st) s21z s21 A B C D=RL62_4 (WL62_4 KL62_4) s21z s21 A B C D:=by kernel_rfl
theorem L62_4_eq(s21z:Bool)(s21:List T)(A:Bool)(B:List T)(C D:Int) :L62_4 s21z s21 A B C D=RL62_4 L62_4 s21z s21 A B C D:=
 (congrArg (fun k=>WL62_4 k s21z s21 A B C D) (funext fun e=>funext fun st=>round_eq Try.prog hint (b:=(nav (List.reverse (.lp::PaL62_4)) (bodyOf Try.f62))) (fn:=Try.f62) (nt:=32) (T:=(Ta62 VL62_4)) [PaL62_4] rfl PaL62_4 e st rfl rfl rfl)).trans (L62_4g VL62_4 s21z s21 A B C D)
noncomputable def R26(A:Bool)(B:List T)(C:Bool)(D:List T)(E:Bool)(F:List T)(G:Bool)(H:List T) :Option Res:=callK (vr 59 0 [.t (.list 4 A B), .t (.list 4 E F), .fn 60 [] []] ⟨[],[]⟩) fun a b=>asT a fun c=>asB c fun a=>endB b <|
(bif a then
 callK (vr 62 0 [.t (.list 7 C D), .t (.list 7 G H), .fn 63 [] []] ⟨[],[]⟩) fun a b=>asT a fun c=>asB c fun a=>endB b <| some ((.t (.bool a)),⟨[],[]⟩)
else
 some ((.t (.bool false)),⟨[],[]⟩))
theorem eq26g(A:Bool)(B:List T)(C:Bool)(D:List T)(E:Bool)(F:List T)(G:Bool)(H:List T) :gE 26 0 19 Try.f26 [] [.t (.agg [.list 4 A B, .list 7 C D]), .t (.agg [.list 4 E F, .list 7 G H])] ⟨[],[]⟩=R26 A B C D E F G H:=by kernel_rfl
theorem eq26(A:Bool)(B:List T)(C:Bool)(D:List T)(E:Bool)(F:List T)(G:Bool)(H:List T) :vr 26 0 [.t (.agg [.list 4 A B, .list 7 C D]), .t (.agg [.list 4 E F, .list 7 G H])] ⟨[],[]⟩=R26 A B C D E F G H:=
 Eq.trans (call_eq Try.prog hint (fn:=Try.f26) (nt:=19) (T:=[]) [] rfl _ _ rfl rfl rfl rfl rfl) (eq26g A B C D E F G H)
noncomputable def R6(A:ByteArray) :Option Res:=callK (vr 9 0 [] ⟨[],[]⟩) fun a b=>asT a fun c=>asB c fun a=>endB b <|
(bif (decide (10000<(A.size:Int))) then
 some ((.t (.bool a)),⟨[],[]⟩)
else
 callK (vr 10 0 [.t (.str A)] ⟨[],[]⟩) fun b c=>asTup b fun d=>consV d fun b f=>asT b fun d=>asA d fun b=>consT b fun d g=>asL 4 d fun b h=>consT g fun d i=>asL 7 d fun g j=>endT i <| consV f fun d i=>asT d fun f=>asI .i64 f fun d=>consV i fun d f=>asT d fun i=>asI .i64 i fun d=>endV f <| endB c <|
(bif (!decide (d=0)) then
(bif a then
 some ((.t (.bool (decide ((IntKind.i64.wrap ((h.length:Int)+(j.length:Int)))=0)))),⟨[],[]⟩)
else
 some ((.t (.bool false)),⟨[],[]⟩))
else
 callK (vr 24 0 [.t (.agg [.list 4 b h, .list 7 g j])] ⟨[],[]⟩) fun c d=>asT c fun f=>asI .i64 f fun c=>endB d <|
(bif (!decide (c=0)) then
 some ((.t (.bool false)),⟨[],[]⟩)
else
 callK (vr 25 0 [.t (.agg [.list 4 b h, .list 7 g j])] ⟨[],[]⟩) fun c d=>asTup c fun f=>consV f fun c i=>asT c fun f=>asS f fun c=>consV i fun f k=>asT f fun i=>asI .i64 i fun f=>endV k <| endB d <|
(bif (!decide (f=0)) then
(bif a then
(bif (decide (f=0)) then
 some ((.t (.bool true)),⟨[],[]⟩)
else
 some ((.t (.bool (decide (f=2)))),⟨[],[]⟩))
else
 some ((.t (.bool false)),⟨[],[]⟩))
else
(bif (decide (65536<(c.size:Int))) then
(bif a then
(bif (decide (f=0)) then
 some ((.t (.bool true)),⟨[],[]⟩)
else
 some ((.t (.bool (decide (f=2)))),⟨[],[]⟩))
else
 some ((.t (.bool false)),⟨[],[]⟩))
else
 callK (vr 10 0 [.t (.str c)] ⟨[],[]⟩) fun d f=>asTup d fun c=>consV c fun d i=>asT d fun c=>asA c fun d=>consT d fun c k=>asL 4 c fun d l=>consT k fun c m=>asL 7 c fun k n=>endT m <| consV i fun c m=>asT c fun i=>asI .i64 i fun c=>consV m fun c i=>asT c fun m=>asI .i64 m fun c=>endV i <| endB f <|
(bif a then
(bif (decide (c=0)) then
 callK (vr 26 0 [.t (.agg [.list 4 b h, .list 7 g j]), .t (.agg [.list 4 d l, .list 7 k n])] ⟨[],[]⟩) fun a c=>asT a fun b=>asB b fun a=>endB c <| some ((.t (.bool a)),⟨[],[]⟩)
else
 some ((.t (.bool false)),⟨[],[]⟩))
else
 some ((.t (.bool false)),⟨[],[]⟩)))))))
theorem eq6g(A:ByteArray) :gE 6 0 76 Try.f6 [] [.t (.str A)] ⟨[],[]⟩=R6 A:=by kernel_rfl
theorem eq6(A:ByteArray) :vr 6 0 [.t (.str A)] ⟨[],[]⟩=R6 A:=
 Eq.trans (call_eq Try.prog hint (fn:=Try.f6) (nt:=76) (T:=[]) [] rfl _ _ rfl rfl rfl rfl rfl) (eq6g A)
noncomputable def R16(L16_4:YL16_4)(L16_10:YL16_10)(A B:Int)(C:ByteArray)(D:Bool)(E:List T)(F:Bool)(G:List T)(H:Int) :Option Res:=
(bif (decide (H=0)) then
 some ((.t (.bool false)),⟨[],[]⟩)
else
(bif (decide (5<(G.length:Int))) then
 some ((.t (.bool false)),⟨[],[]⟩)
else
(bif (decide (10<(E.length:Int))) then
 some ((.t (.bool false)),⟨[],[]⟩)
else
(bif (decide (100<(C.size:Int))) then
 some ((.t (.bool false)),⟨[],[]⟩)
else
 L16_4 (H) (D) (E) ((E.length:Int)) (0) (A) (B) (C) (D) (E) (F) (G)))))
theorem eq16g(KL16_4 KL16_10:Env→St→Option Res)(A B:Int)(C:ByteArray)(D:Bool)(E:List T)(F:Bool)(G:List T)(H:Int) :gE 16 0 53 Try.f16 (Ta16 KL16_4 KL16_10) [.t (.agg [.int .i64 A, .int .i64 B, .str C, .list 1 D E, .list 5 F G]), .t (.int .i64 H)] ⟨[],[]⟩=R16 (WL16_4 KL16_4) (WL16_10 KL16_10) A B C D E F G H:=by kernel_rfl
theorem eq16(A B:Int)(C:ByteArray)(D:Bool)(E:List T)(F:Bool)(G:List T)(H:Int) :vr 16 0 [.t (.agg [.int .i64 A, .int .i64 B, .str C, .list 1 D E, .list 5 F G]), .t (.int .i64 H)] ⟨[],[]⟩=R16 L16_4 L16_10 A B C D E F G H:=
 Eq.trans (call_eq Try.prog hint (fn:=Try.f16) (nt:=53) (T:=(Ta16 VL16_4 VL16_10)) [PaL16_4,PaL16_10] rfl _ _ rfl rfl rfl rfl rfl) (eq16g VL16_4 VL16_10 A B C D E F G H)
noncomputable def RL16_4(L16_4:YL16_4)(L16_10:YL16_10)(deep1:Int)(A:Bool)(B:List T)(C D E F:Int)(G:ByteArray)(H:Bool)(I:List T)(J:Bool)(K:List T) :Option Res:=
(bif (decide (D<C)) then
 needC (decide (0≤D)) fun _=>getT B (D).toNat fun a=>asS a fun b=>
(bif (decide (100<(b.size:Int))) then
 some ((.t (.bool false)),⟨[],[]⟩)
else
 L16_4 (deep1) (A) (B) (C) ((IntKind.i64.wrap (D+1))) (E) (F) (G) (H) (I) (J) (K))
else
 L16_10 (deep1) (J) (K) ((K.length:Int)) (0))
theorem L16_4g(KL16_4 KL16_10:Env→St→Option Res)(deep1:Int)(A:Bool)(B:List T)(C D E F:Int)(G:ByteArray)(H:Bool)(I:List T)(J:Bool)(K:List T) :WL16_4 (fun e st=>gP 16 0 53 Try.f16 (Ta16 KL16_4 KL16_10) (.lp::PaL16_4) e st) deep1 A B C D E F G H I J K=RL16_4 (WL16_4 KL16_4) (WL16_10 KL16_10) deep1 A B C D E F G H I J K:=by kernel_rfl
theorem L16_4_eq(deep1:Int)(A:Bool)(B:List T)(C D E F:Int)(G:ByteArray)(H:Bool)(I:List T)(J:Bool)(K:List T) :L16_4 deep1 A B C D E F G H I J K=RL16_4 L16_4 L16_10 deep1 A B C D E F G H I J K:=
 (congrArg (fun k=>WL16_4 k deep1 A B C D E F G H I J K) (funext fun e=>funext fun st=>round_eq Try.prog hint (b:=(nav (List.reverse (.lp::PaL16_4)) (bodyOf Try.f16))) (fn:=Try.f16) (nt:=53) (T:=(Ta16 VL16_4 VL16_10)) [PaL16_4,PaL16_10] rfl PaL16_4 e st rfl rfl rfl)).trans (L16_4g VL16_4 VL16_10 deep1 A B C D E F G H I J K)
noncomputable def RL16_10(L16_4:YL16_4)(L16_10:YL16_10)(deep1:Int)(A:Bool)(B:List T)(C D:Int) :Option Res:=
(bif (decide (D<C)) then
 needC (decide (0≤D)) fun _=>getT B (D).toNat fun a=>asA a fun b=>consT b fun a c=>asI .i64 a fun b=>consT c fun a d=>asI .i64 a fun c=>consT d fun a f=>asS a fun d=>consT f fun a g=>asL 1 a fun f h=>consT g fun a i=>asL 5 a fun g j=>endT i <| callK (vr 16 0 [.t (.agg [.int .i64 b, .int .i64 c, .str d, .list 1 f h, .list 5 g j]), .t (.int .i64 (IntKind.i64.wrap (deep1 - 1)))] ⟨[],[]⟩) fun a i=>asT a fun b=>asB b fun a=>endB i <|
(bif (!a) then
 some ((.t (.bool false)),⟨[],[]⟩)
else
 L16_10 (deep1) (A) (B) (C) ((IntKind.i64.wrap (D+1))))
else
 some ((.t (.bool true)),⟨[],[]⟩))
theorem L16_10g(KL16_4 KL16_10:Env→St→Option Res)(deep1:Int)(A:Bool)(B:List T)(C D:Int) :WL16_10 (fun e st=>gP 16 0 53 Try.f16 (Ta16 KL16_4 KL16_10) (.lp::PaL16_10) e st) deep1 A B C D=RL16_10 (WL16_4 KL16_4) (WL16_10 KL16_10) deep1 A B C D:=by kernel_rfl
theorem L16_10_eq(deep1:Int)(A:Bool)(B:List T)(C D:Int) :L16_10 deep1 A B C D=RL16_10 L16_4 L16_10 deep1 A B C D:=
 (congrArg (fun k=>WL16_10 k deep1 A B C D) (funext fun e=>funext fun st=>round_eq Try.prog hint (b:=(nav (List.reverse (.lp::PaL16_10)) (bodyOf Try.f16))) (fn:=Try.f16) (nt:=53) (T:=(Ta16 VL16_4 VL16_10)) [PaL16_4,PaL16_10] rfl PaL16_10 e st rfl rfl rfl)).trans (L16_10g VL16_4 VL16_10 deep1 A B C D)
noncomputable def R27(L27_2:YL27_2)(L27_8:YL27_8)(L27_13:YL27_13)(A:Bool)(B:List T)(C:Bool)(D:List T) :Option Res:=L27_2 (A) (B) ((B.length:Int)) (0) (A) (B) (C) (D)
theorem eq27g(KL27_2 KL27_8 KL27_13:Env→St→Option Res)(A:Bool)(B:List T)(C:Bool)(D:List T) :gE 27 0 76 Try.f27 (Ta27 KL27_2 KL27_8 KL27_13) [.t (.agg [.list 4 A B, .list 7 C D])] ⟨[],[]⟩=R27 (WL27_2 KL27_2) (WL27_8 KL27_8) (WL27_13 KL27_13) A B C D:=by kernel_rfl
theorem eq27(A:Bool)(B:List T)(C:Bool)(D:List T) :vr 27 0 [.t (.agg [.list 4 A B, .list 7 C D])] ⟨[],[]⟩=R27 L27_2 L27_8 L27_13 A B C D:=
 Eq.trans (call_eq Try.prog hint (fn:=Try.f27) (nt:=76) (T:=(Ta27 VL27_2 VL27_8 VL27_13)) [PaL27_2,PaL27_8,PaL27_13] rfl _ _ rfl rfl rfl rfl rfl) (eq27g VL27_2 VL27_8 VL27_13 A B C D)
noncomputable def RL27_2(L27_2:YL27_2)(L27_8:YL27_8)(L27_13:YL27_13)(A:Bool)(B:List T)(C D:Int)(E:Bool)(F:List T)(G:Bool)(H:List T) :Option Res:=
(bif (decide (D<C)) then
 needC (decide (0≤D)) fun _=>getT B (D).toNat fun a=>asA a fun b=>consT b fun a c=>asS a fun b=>consT c fun a d=>asL 1 a fun c f=>consT d fun a c=>asS a fun d=>consT c fun a g=>asI .i64 a fun c=>endT g <|
(bif (decide (20<(f.length:Int))) then
 some ((.t (.bool false)),⟨[],[]⟩)
else
(bif (decide (200<(IntKind.i64.wrap ((b.size:Int)+(d.size:Int))))) then
 some ((.t (.bool false)),⟨[],[]⟩)
else
 L27_2 (A) (B) (C) ((IntKind.i64.wrap (D+1))) (E) (F) (G) (H)))
else
 L27_8 (G) (H) ((H.length:Int)) (0) (E) (F) (G) (H))
theorem L27_2g(KL27_2 KL27_8 KL27_13:Env→St→Option Res)(A:Bool)(B:List T)(C D:Int)(E:Bool)(F:List T)(G:Bool)(H:List T) :WL27_2 (fun e st=>gP 27 0 76 Try.f27 (Ta27 KL27_2 KL27_8 KL27_13) (.lp::PaL27_2) e st) A B C D E F G H=RL27_2 (WL27_2 KL27_2) (WL27_8 KL27_8) (WL27_13 KL27_13) A B C D E F G H:=by kernel_rfl
theorem L27_2_eq(A:Bool)(B:List T)(C D:Int)(E:Bool)(F:List T)(G:Bool)(H:List T) :L27_2 A B C D E F G H=RL27_2 L27_2 L27_8 L27_13 A B C D E F G H:=
 (congrArg (fun k=>WL27_2 k A B C D E F G H) (funext fun e=>funext fun st=>round_eq Try.prog hint (b:=(nav (List.reverse (.lp::PaL27_2)) (bodyOf Try.f27))) (fn:=Try.f27) (nt:=76) (T:=(Ta27 VL27_2 VL27_8 VL27_13)) [PaL27_2,PaL27_8,PaL27_13] rfl PaL27_2 e st rfl rfl rfl)).trans (L27_2g VL27_2 VL27_8 VL27_13 A B C D E F G H)
noncomputable def RL27_8(L27_2:YL27_2)(L27_8:YL27_8)(L27_13:YL27_13)(A:Bool)(B:List T)(C D:Int)(E:Bool)(F:List T)(G:Bool)(H:List T) :Option Res:=
(bif (decide (D<C)) then
 needC (decide (0≤D)) fun _=>getT B (D).toNat fun a=>asA a fun b=>consT b fun a c=>asS a fun b=>consT c fun a d=>asL 1 a fun c f=>consT d fun a g=>asI .i64 a fun d=>consT g fun a h=>asI .i64 a fun g=>consT h fun a i=>asS a fun h=>consT i fun a j=>asL 1 a fun i k=>consT j fun a l=>asL 5 a fun j m=>endT l <| callK (vr 16 0 [.t (.agg [.int .i64 d, .int .i64 g, .str h, .list 1 i k, .list 5 j m]), .t (.int .i64 20)] ⟨[],[]⟩) fun a l=>asT a fun d=>asB d fun a=>endB l <|
(bif (!a) then
 some ((.t (.bool false)),⟨[],[]⟩)
else
(bif (decide (20<(f.length:Int))) then
 some ((.t (.bool false)),⟨[],[]⟩)
else
(bif (decide (100<(b.size:Int))) then
 some ((.t (.bool false)),⟨[],[]⟩)
else
 L27_13 (A) (B) (C) (D) (c) (f) ((f.length:Int)) (0) (E) (F) (G) (H))))
else
(bif (decide ((F.length:Int)≤40)) then
 some ((.t (.bool (decide ((H.length:Int)≤40)))),⟨[],[]⟩)
else
 some ((.t (.bool false)),⟨[],[]⟩)))
theorem L27_8g(KL27_2 KL27_8 KL27_13:Env→St→Option Res)(A:Bool)(B:List T)(C D:Int)(E:Bool)(F:List T)(G:Bool)(H:List T) :WL27_8 (fun e st=>gP 27 0 76 Try.f27 (Ta27 KL27_2 KL27_8 KL27_13) (.lp::PaL27_8) e st) A B C D E F G H=RL27_8 (WL27_2 KL27_2) (WL27_8 KL27_8) (WL27_13 KL27_13) A B C D E F G H:=by kernel_rfl
theorem L27_8_eq(A:Bool)(B:List T)(C D:Int)(E:Bool)(F:List T)(G:Bool)(H:List T) :L27_8 A B C D E F G H=RL27_8 L27_2 L27_8 L27_13 A B C D E F G H:=
 (congrArg (fun k=>WL27_8 k A B C D E F G H) (funext fun e=>funext fun st=>round_eq Try.prog hint (b:=(nav (List.reverse (.lp::PaL27_8)) (bodyOf Try.f27))) (fn:=Try.f27) (nt:=76) (T:=(Ta27 VL27_2 VL27_8 VL27_13)) [PaL27_2,PaL27_8,PaL27_13] rfl PaL27_8 e st rfl rfl rfl)).trans (L27_8g VL27_2 VL27_8 VL27_13 A B C D E F G H)
noncomputable def RL27_13(L27_2:YL27_2)(L27_8:YL27_8)(L27_13:YL27_13)(A:Bool)(B:List T)(C D:Int)(E:Bool)(F:List T)(G H:Int)(I:Bool)(J:List T)(K:Bool)(L:List T) :Option Res:=
(bif (decide (H<G)) then
 needC (decide (0≤H)) fun _=>getT F (H).toNat fun a=>asS a fun b=>
(bif (decide (100<(b.size:Int))) then
 some ((.t (.bool false)),⟨[],[]⟩)
else
 L27_13 (A) (B) (C) (D) (E) (F) (G) ((IntKind.i64.wrap (H+1))) (I) (J) (K) (L))
else
 L27_8 (A) (B) (C) ((IntKind.i64.wrap (D+1))) (I) (J) (K) (L))
theorem L27_13g(KL27_2 KL27_8 KL27_13:Env→St→Option Res)(A:Bool)(B:List T)(C D:Int)(E:Bool)(F:List T)(G H:Int)(I:Bool)(J:List T)(K:Bool)(L:List T) :WL27_13 (fun e st=>gP 27 0 76 Try.f27 (Ta27 KL27_2 KL27_8 KL27_13) (.lp::PaL27_13) e st) A B C D E F G H I J K L=RL27_13 (WL27_2 KL27_2) (WL27_8 KL27_8) (WL27_13 KL27_13) A B C D E F G H I J K L:=by kernel_rfl
theorem L27_13_eq(A:Bool)(B:List T)(C D:Int)(E:Bool)(F:List T)(G H:Int)(I:Bool)(J:List T)(K:Bool)(L:List T) :L27_13 A B C D E F G H I J K L=RL27_13 L27_2 L27_8 L27_13 A B C D E F G H I J K L:=
 (congrArg (fun k=>WL27_13 k A B C D E F G H I J K L) (funext fun e=>funext fun st=>round_eq Try.prog hint (b:=(nav (List.reverse (.lp::PaL27_13)) (bodyOf Try.f27))) (fn:=Try.f27) (nt:=76) (T:=(Ta27 VL27_2 VL27_8 VL27_13)) [PaL27_2,PaL27_8,PaL27_13] rfl PaL27_13 e st rfl rfl rfl)).trans (L27_13g VL27_2 VL27_8 VL27_13 A B C D E F G H I J K L)
noncomputable def R22(A B:Int)(C:ByteArray)(D:Bool)(E:List T)(F:Bool)(G:List T) :Option Res:=callK (vr 17 0 [.t (.agg [.int .i64 A, .int .i64 B, .str C, .list 1 D E, .list 5 F G])] ⟨[],[]⟩) fun a b=>asT a fun c=>asB c fun a=>endB b <|
(bif (!a) then
 some ((.tup [.t (.str ⟨#[]⟩), .t (.int .i64 1)]),⟨[],[]⟩)
else
 callK (vr 45 0 [.ptr 0 0 0, .t (.agg [.int .i64 A, .int .i64 B, .str C, .list 1 D E, .list 5 F G])] ⟨[(0, .var [.buf 1]),(1, .arr true 3 false [])],[]⟩) fun a b=>asTup a fun c=>endV c <| consB 0 b fun a c=>asVar a fun b=>consV b fun a d=>isBuf 500 a <| endV d <| consB 500 c fun a b=>asArr 3 a fun c d=>endB b <| callK (vr 46 0 [.t (.list 3 c d)] ⟨[],[]⟩) fun a b=>asTup a fun c=>consV c fun a d=>asT a fun c=>asS c fun a=>consV d fun c f=>asT c fun d=>asI .i64 d fun c=>endV f <| endB b <| some ((.tup [.t (.str a), .t (.int .i64 c)]),⟨[],[]⟩))
theorem eq22g(A B:Int)(C:ByteArray)(D:Bool)(E:List T)(F:Bool)(G:List T) :gE 22 0 20 Try.f22 [] [.t (.agg [.int .i64 A, .int .i64 B, .str C, .list 1 D E, .list 5 F G])] ⟨[],[]⟩=R22 A B C D E F G:=by kernel_rfl
theorem eq22(A B:Int)(C:ByteArray)(D:Bool)(E:List T)(F:Bool)(G:List T) :vr 22 0 [.t (.agg [.int .i64 A, .int .i64 B, .str C, .list 1 D E, .list 5 F G])] ⟨[],[]⟩=R22 A B C D E F G:=
 Eq.trans (call_eq Try.prog hint (fn:=Try.f22) (nt:=20) (T:=[]) [] rfl _ _ rfl rfl rfl rfl rfl) (eq22g A B C D E F G)
noncomputable def R12(A:ByteArray) :Option Res:=callK (vr 28 0 [.t (.str A)] ⟨[],[]⟩) fun a b=>asTup a fun c=>consV c fun a d=>asT a fun c=>asL 3 c fun a f=>consV d fun c g=>asT c fun d=>asI .i64 d fun c=>consV g fun c d=>asT c fun g=>asI .i64 g fun c=>endV d <| endB b <|
(bif (!decide (c=0)) then
 some ((.tup [.t (.agg [.int .i64 0, .int .i64 0, .str ByteArray.empty, .list 1 false [], .list 5 false []]), .t (.int .i64 c)]),⟨[],[]⟩)
else
 callK (vr 40 0 [.ptr 0 0 0] ⟨[(0, .var [.t (.list 3 a f), .t (.bool false)])],[]⟩) fun b c=>asT b fun a=>D_iisl1l5 a fun b d f g h i j=>consB 0 c fun a k=>W_l3b a fun c l m=>endB k <| callK (vr 34 0 [.ptr 0 0 0] (Z3 c l m)) fun a k=>asT a fun c=>asB c fun a=>consB 0 k fun c l=>W_l3b c fun k m n=>endB l <|
(bif (!a) then
 some ((.tup [.t (.agg [.int .i64 0, .int .i64 0, .str ByteArray.empty, .list 1 false [], .list 5 false []]), .t (.int .i64 6)]),⟨[],[]⟩)
else
 callK (vr 17 0 [.t (.agg [.int .i64 b, .int .i64 d, .str f, .list 1 g h, .list 5 i j])] ⟨[],[]⟩) fun a c=>asT a fun k=>asB k fun a=>endB c <|
(bif (!a) then
 some ((.tup [.t (.agg [.int .i64 0, .int .i64 0, .str ByteArray.empty, .list 1 false [], .list 5 false []]), .t (.int .i64 2)]),⟨[],[]⟩)
else
 some ((.tup [.t (.agg [.int .i64 b, .int .i64 d, .str f, .list 1 g h, .list 5 i j]), .t (.int .i64 0)]),⟨[],[]⟩))))
theorem eq12g(A:ByteArray) :gE 12 0 36 Try.f12 [] [.t (.str A)] ⟨[],[]⟩=R12 A:=by kernel_rfl
theorem eq12(A:ByteArray) :vr 12 0 [.t (.str A)] ⟨[],[]⟩=R12 A:=
 Eq.trans (call_eq Try.prog hint (fn:=Try.f12) (nt:=36) (T:=[]) [] rfl _ _ rfl rfl rfl rfl rfl) (eq12g A)
noncomputable def R8(J8_9:YJ8_9)(A:Bool)(B:List T)(C:Bool)(D:List T)(E F:Int)(G:ByteArray)(H:Bool)(I:List T)(J:Bool)(K:List T) :Option Res:=callK (vr 9 0 [] ⟨[],[]⟩) fun a b=>asT a fun c=>asB c fun a=>endB b <| callK (vr 27 0 [.t (.agg [.list 4 A B, .list 7 C D])] ⟨[],[]⟩) fun b c=>asT b fun d=>asB d fun b=>endB c <|
(bif (!b) then
 some ((.t (.bool a)),⟨[],[]⟩)
else
 callK (vr 16 0 [.t (.agg [.int .i64 E, .int .i64 F, .str G, .list 1 H I, .list 5 J K]), .t (.int .i64 20)] ⟨[],[]⟩) fun b c=>asT b fun d=>asB d fun b=>endB c <|
(bif (!b) then
 some ((.t (.bool a)),⟨[],[]⟩)
else
 callK (vr 22 0 [.t (.agg [.int .i64 E, .int .i64 F, .str G, .list 1 H I, .list 5 J K])] ⟨[],[]⟩) fun b c=>asTup b fun d=>consV d fun b f=>asT b fun d=>asS d fun b=>consV f fun d g=>asT d fun f=>asI .i64 f fun d=>endV g <| endB c <|
(bif (decide (d=0)) then
 callK (vr 12 0 [.t (.str b)] ⟨[],[]⟩) fun c d=>asTup c fun b=>consV b fun c f=>asT c fun b=>asA b fun c=>consT c fun b g=>asI .i64 b fun c=>consT g fun b h=>asI .i64 b fun g=>consT h fun b i=>asS b fun h=>consT i fun b j=>asL 1 b fun i k=>consT j fun b l=>asL 5 b fun j m=>endT l <| consV f fun b l=>asT b fun f=>asI .i64 f fun b=>endV l <| endB d <|
(bif (!decide (b=0)) then
 some ((.t (.bool false)),⟨[],[]⟩)
else
 callK (vr 23 0 [.t (.agg [.int .i64 c, .int .i64 g, .str h, .list 1 i k, .list 5 j m]), .t (.agg [.int .i64 E, .int .i64 F, .str G, .list 1 H I, .list 5 J K])] ⟨[],[]⟩) fun b d=>asT b fun c=>asB c fun b=>endB d <|
(bif (!b) then
 some ((.t (.bool false)),⟨[],[]⟩)
else
 J8_9 (a) (A) (B) (C) (D)))
else
 J8_9 (a) (A) (B) (C) (D))))
theorem eq8g(KJ8_9:Env→St→Option Res)(A:Bool)(B:List T)(C:Bool)(D:List T)(E F:Int)(G:ByteArray)(H:Bool)(I:List T)(J:Bool)(K:List T) :gE 8 0 93 Try.f8 (Ta8 KJ8_9) [.t (.agg [.list 4 A B, .list 7 C D]), .t (.agg [.int .i64 E, .int .i64 F, .str G, .list 1 H I, .list 5 J K])] ⟨[],[]⟩=R8 (WJ8_9 KJ8_9) A B C D E F G H I J K:=by kernel_rfl
theorem eq8(A:Bool)(B:List T)(C:Bool)(D:List T)(E F:Int)(G:ByteArray)(H:Bool)(I:List T)(J:Bool)(K:List T) :vr 8 0 [.t (.agg [.list 4 A B, .list 7 C D]), .t (.agg [.int .i64 E, .int .i64 F, .str G, .list 1 H I, .list 5 J K])] ⟨[],[]⟩=R8 J8_9 A B C D E F G H I J K:=
 Eq.trans (call_eq Try.prog hint (fn:=Try.f8) (nt:=93) (T:=(Ta8 VJ8_9)) [PaJ8_9] rfl _ _ rfl rfl rfl rfl rfl) (eq8g VJ8_9 A B C D E F G H I J K)
noncomputable def RJ8_9(J8_9:YJ8_9)(up5 A:Bool)(B:List T)(C:Bool)(D:List T) :Option Res:=callK (vr 25 0 [.t (.agg [.list 4 A B, .list 7 C D])] ⟨[],[]⟩) fun a b=>asTup a fun c=>consV c fun a d=>asT a fun c=>asS c fun a=>consV d fun c f=>asT c fun d=>asI .i64 d fun c=>endV f <| endB b <|
(bif (!decide (c=0)) then
(bif up5 then
(bif (decide (c=0)) then
 some ((.t (.bool true)),⟨[],[]⟩)
else
 some ((.t (.bool (decide ((a:ByteArray)=⟨#[]⟩)))),⟨[],[]⟩))
else
 some ((.t (.bool false)),⟨[],[]⟩))
else
(bif (decide (65536<(a.size:Int))) then
(bif up5 then
(bif (decide (c=0)) then
 some ((.t (.bool true)),⟨[],[]⟩)
else
 some ((.t (.bool (decide ((a:ByteArray)=⟨#[]⟩)))),⟨[],[]⟩))
else
 some ((.t (.bool false)),⟨[],[]⟩))
else
 callK (vr 10 0 [.t (.str a)] ⟨[],[]⟩) fun b c=>asTup b fun a=>consV a fun b d=>asT b fun a=>asA a fun b=>consT b fun a f=>asL 4 a fun b g=>consT f fun a h=>asL 7 a fun f i=>endT h <| consV d fun a h=>asT a fun d=>asI .i64 d fun a=>consV h fun d j=>asT d fun h=>asI .i64 h fun d=>endV j <| endB c <|
(bif up5 then
(bif (decide (d=0)) then
(bif (decide (a=(IntKind.i64.wrap ((B.length:Int)+(D.length:Int))))) then
 callK (vr 26 0 [.t (.agg [.list 4 A B, .list 7 C D]), .t (.agg [.list 4 b g, .list 7 f i])] ⟨[],[]⟩) fun a c=>asT a fun b=>asB b fun a=>endB c <| some ((.t (.bool a)),⟨[],[]⟩)
else
 some ((.t (.bool false)),⟨[],[]⟩))
else
 some ((.t (.bool false)),⟨[],[]⟩))
else
 some ((.t (.bool false)),⟨[],[]⟩))))
theorem J8_9g(KJ8_9:Env→St→Option Res)(up5 A:Bool)(B:List T)(C:Bool)(D:List T) :WJ8_9 (fun e st=>gP 8 0 93 Try.f8 (Ta8 KJ8_9) PaJ8_9 e st) up5 A B C D=RJ8_9 (WJ8_9 KJ8_9) up5 A B C D:=by kernel_rfl
theorem J8_9_eq(up5 A:Bool)(B:List T)(C:Bool)(D:List T) :J8_9 up5 A B C D=RJ8_9 J8_9 up5 A B C D:=
 (congrArg (fun k=>WJ8_9 k up5 A B C D) (funext fun e=>funext fun st=>join_eq Try.prog hint (fn:=Try.f8) (nt:=93) (T:=(Ta8 VJ8_9)) [PaJ8_9] rfl PaJ8_9 e st rfl)).trans (J8_9g VJ8_9 up5 A B C D)
noncomputable def R96(A:Int)(B:ByteArray)(C:Int) :Option Res:=callK (vr 67 0 [.t (.str B)] ⟨[],[]⟩) fun a b=>asTup a fun c=>consV c fun a d=>asT a fun c=>asA c fun a=>consT a fun c f=>asI .i64 c fun a=>consT f fun c g=>asS c fun f=>consT g fun c h=>asI .i64 c fun g=>endT h <| consV d fun c h=>asT c fun d=>asB d fun c=>endV h <| endB b <|
(bif (decide (A=4) &&(decide ((B:ByteArray)=ByteArray.empty) &&(decide (C=0) &&true))) then
 some ((.t (.int .i64 0)),⟨[],[]⟩)
else
(bif c then
(bif (decide (A=a) &&(decide ((B:ByteArray)=f) &&(decide (C=g) &&true))) then
 some ((.t (.int .i64 0)),⟨[],[]⟩)
else
 some ((.t (.int .i64 1)),⟨[],[]⟩))
else
 some ((.t (.int .i64 1)),⟨[],[]⟩)))
theorem eq96g(A:Int)(B:ByteArray)(C:Int) :gE 96 0 22 Try.f96 [] [.t (.agg [.int .i64 A, .str B, .int .i64 C])] ⟨[],[]⟩=R96 A B C:=by kernel_rfl
theorem eq96(A:Int)(B:ByteArray)(C:Int) :vr 96 0 [.t (.agg [.int .i64 A, .str B, .int .i64 C])] ⟨[],[]⟩=R96 A B C:=
 Eq.trans (call_eq Try.prog hint (fn:=Try.f96) (nt:=22) (T:=[]) [] rfl _ _ rfl rfl rfl rfl rfl) (eq96g A B C)
end Go.Proofs.Ytpfploolkmcalaa.VM
