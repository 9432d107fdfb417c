/- The equations of the functions, as the small evaluator gives them (printed by vgen.py). Conditions: none. -/
import Derived.Test.YtgkdkjjohknfpaaVmD
import Derived.Test.YtgkdkjjohknfpaaProg
set_option linter.all false
set_option linter.all false
namespace Go.Proofs.Ytgkdkjjohknfpaa.VM
open Go AM
def normTab :List (Nat×Nat×List (Nat×Norm)):=[
 (67,0,[(2,{slots:=[(0,0),(3,0)],cells:=[]})]),
 (81,0,[(4,{slots:=[(0,0),(2,0),(23,0),(24,0)],cells:=[]})]),
 (52,0,[(6,{slots:=[(0,0),(5,5),(6,0),(7,0)],cells:=[]}),(21,{slots:=[(0,0),(5,0),(6,0),(7,0),(8,0)],cells:=[]}),(26,{slots:=[(0,0),(5,0),(7,0),(8,0),(9,0)],cells:=[]}),(28,{slots:=[(0,0),(5,0)],cells:=[]})]),
 (69,0,[(2,{slots:=[(0,0),(1,0),(7,0),(8,0)],cells:=[]})]),
 (53,0,[(2,{slots:=[(0,0),(3,3)],cells:=[]})]),
 (72,0,[(2,{slots:=[(0,0),(1,0),(7,0),(8,0)],cells:=[]})]),
 (55,0,[(6,{slots:=[(0,0),(2,0),(4,0)],cells:=[]}),(7,{slots:=[(0,0),(2,0),(4,0),(26,0),(27,0)],cells:=[]})]),
 (44,0,[(4,{slots:=[(2,0),(5,0),(6,0),(7,0),(26,0),(27,0)],cells:=[]})]),
 (59,0,[(2,{slots:=[(0,0),(1,0),(7,0),(8,0)],cells:=[]})]),
 (32,0,[(8,{slots:=[(2,0),(8,0),(30,0),(31,0),(32,0)],cells:=[(2,3,7)]}),(17,{slots:=[(2,0),(8,0),(9,0),(11,0),(30,0),(31,0),(32,0)],cells:=[]})]),
 (76,0,[(4,{slots:=[(0,0),(2,0),(3,0),(5,0)],cells:=[]})]),
 (56,0,[(5,{slots:=[(1,0),(3,0),(4,0),(5,0)],cells:=[]}),(12,{slots:=[(1,0),(3,0),(4,0),(5,0),(6,0),(7,0)],cells:=[]}),(13,{slots:=[(1,0),(3,0),(4,0),(5,0),(7,0),(70,0),(71,0),(72,0)],cells:=[]})]),
 (15,0,[(3,{slots:=[(2,0),(3,0),(13,0),(14,0)],cells:=[]})]),
 (57,0,[(2,{slots:=[(0,0),(1,0),(7,0),(8,0)],cells:=[]})]),
 (34,0,[(2,{slots:=[(0,0),(1,0),(4,3),(11,0),(12,0),(13,0)],cells:=[]})]),
 (20,0,[(4,{slots:=[(0,0),(1,0),(12,0),(13,0)],cells:=[]})]),
 (59,1,[(2,{slots:=[(0,0),(1,0),(7,0),(8,0)],cells:=[]})]),
 (60,0,[(7,{slots:=[(2,0),(3,0),(6,0),(7,0),(8,0),(22,0)],cells:=[]}),(12,{slots:=[(2,0),(3,0),(6,0),(7,0),(8,0),(9,0),(10,0),(22,0)],cells:=[]}),(23,{slots:=[(2,0),(3,0),(6,0),(7,0),(8,0),(9,0),(11,0),(22,0)],cells:=[]})]),
 (46,0,[(3,{slots:=[(1,0),(3,0),(50,0),(51,0),(52,0)],cells:=[]})]),
 (47,0,[(4,{slots:=[(1,0),(2,0),(5,0),(20,0),(21,0)],cells:=[]}),(6,{slots:=[(1,0),(2,0),(5,0),(20,0),(21,0),(24,0),(25,0),(26,0)],cells:=[]}),(11,{slots:=[(1,0),(2,0),(5,0),(20,0),(21,0),(24,0),(25,0),(26,0),(51,0),(52,0),(53,0)],cells:=[]})]),
 (12,0,[(6,{slots:=[(1,0),(4,0),(6,0),(25,0),(26,0),(27,0)],cells:=[]}),(9,{slots:=[(1,0),(4,0),(6,0),(7,0),(8,0),(9,0),(25,0),(26,0),(27,0)],cells:=[]})]),
 (24,0,[(6,{slots:=[(1,0),(4,0),(6,0),(23,0),(24,0)],cells:=[]}),(10,{slots:=[(1,0),(4,0),(6,0),(7,0),(8,0),(23,0),(24,0),(32,0),(33,0)],cells:=[]})]),
 (49,0,[(4,{slots:=[(1,0),(4,0),(5,3),(14,0),(15,0)],cells:=[]})]),
 (50,0,[(2,{slots:=[(1,0),(7,0),(8,0),(9,0)],cells:=[]})]),
 (26,0,[(7,{slots:=[(4,0),(6,0),(8,3),(28,0),(29,0),(30,0)],cells:=[]}),(11,{slots:=[(4,0),(6,0),(8,0),(9,0),(11,0),(28,0),(29,0),(30,0),(36,0),(37,0),(38,0)],cells:=[]})]),
 (17,0,[(7,{slots:=[(1,0),(2,0),(4,0),(6,0),(29,0),(30,0),(31,0)],cells:=[(1,3,7)]}),(14,{slots:=[(1,0),(2,0),(6,0),(58,0),(59,0)],cells:=[]})]),
 (27,0,[(7,{slots:=[(1,0),(2,0),(4,0),(6,0),(7,0),(27,0),(28,0)],cells:=[]}),(15,{slots:=[(2,0),(4,0),(6,0),(9,0),(50,0),(51,0),(52,0)],cells:=[(9,3,7)]}),(24,{slots:=[(2,0),(4,0),(6,0),(9,0),(11,0),(50,0),(51,0),(52,0)],cells:=[]})]),
 (57,1,[(2,{slots:=[(0,0),(1,0),(7,0),(8,0)],cells:=[]})]),
 (34,1,[(2,{slots:=[(0,0),(1,0),(4,3),(11,0),(12,0),(13,0)],cells:=[]})]),
 (28,0,[(6,{slots:=[(4,0),(6,3),(21,0),(22,0),(23,0)],cells:=[]}),(10,{slots:=[(4,0),(6,0),(7,0),(9,0),(21,0),(22,0),(23,0),(30,0),(31,0),(32,0)],cells:=[]})]),
 (29,0,[(4,{slots:=[(0,0),(1,0),(12,0),(13,0)],cells:=[]})]),
 (22,0,[(4,{slots:=[(0,0),(1,0),(13,0),(14,0)],cells:=[]}),(9,{slots:=[(0,0),(1,0),(5,0),(13,0),(14,0),(32,0),(33,0)],cells:=[]})]),
 (30,0,[(7,{slots:=[(1,0),(19,0),(20,0),(21,0)],cells:=[]})]),
 (31,0,[(4,{slots:=[(2,0),(3,0),(36,0),(37,0)],cells:=[]})]),
 (7,0,[(16,{slots:=[(1,0),(3,0),(4,0),(5,0),(6,0),(7,0),(8,0),(9,0),(10,0),(11,0),(12,0),(13,0),(14,0),(15,0),(16,0),(17,0),(18,0),(19,0),(20,0),(21,0),(22,0),(23,0),(24,0),(86,0),(87,0)],cells:=[(17,3,7)]})])]
def callTab :List (Nat×Nat×List (Nat×Nat×CallH)):=[
 (7,0,[(11,1,{w:=0,own:=[],pre:=[],out:=(.tup [.agg [.t (.int .i64), .t (.int .i64), .t (.int .i64), .buf 500], .t (.one (.int .i64))]),blks:=[(500, .arr 5)]})]),
 (10,0,[(1,1,{w:=0,own:=[],pre:=[],out:=(.tup [.nilp, .t (.one (.int .i64))]),blks:=[],alt:=[((.tup [.ptr 500 0 0, .t (.one (.int .i64))]),[(500, .var [.t (.int .i64), .t (.int .i64), .t (.int .i64), .t (.list 5), .buf 501, .buf 502]),(501, .arr 2),(502, .arr 1)])]}),(4,1,{w:=1,own:=[],pre:=[],out:=(.one (.t (.one (.list 1)))),blks:=[(0, .var [.t (.int .i64), .t (.int .i64), .t (.int .i64), .t (.list 5), .buf 1, .buf 2]),(1, .arr 2),(2, .arr 1)]})]),
 (12,0,[(1,1,{w:=0,own:=[],pre:=[],out:=(.tup [.nilp, .t (.one (.int .i64))]),blks:=[],alt:=[((.tup [.ptr 500 0 0, .t (.one (.int .i64))]),[(500, .var [.t (.int .i64), .t (.int .i64), .t (.int .i64), .t (.list 5), .buf 501, .buf 502]),(501, .arr 2),(502, .arr 1)])]})]),
 (13,0,[(1,1,{w:=0,own:=[],pre:=[],out:=(.tup [.nilp, .t (.one (.int .i64))]),blks:=[],alt:=[((.tup [.ptr 500 0 0, .t (.one (.int .i64))]),[(500, .var [.t (.int .i64), .t (.int .i64), .t (.int .i64), .t (.list 5), .buf 501, .buf 502]),(501, .arr 2),(502, .arr 1)])]})]),
 (14,0,[(6,3,{w:=1,own:=[],pre:=[],out:=(.one (.t (.one .bool))),blks:=[(0, .var [.t (.int .i64), .t (.int .i64), .t (.int .i64), .t (.list 5)])]})]),
 (15,0,[(2,0,{w:=0,own:=[],pre:=[],out:=(.one (.agg [.ptr 0 0 1, .ptr 0 0 2, .ptr 0 0 3])),blks:=[(0, .var [.t (.int .i64), .t (.int .i64), .t (.int .i64), .t (.int .i64), .t (.int .i64)])]})]),
 (17,0,[(1,1,{w:=0,own:=[],pre:=[],out:=(.tup [.nilp, .t (.one (.int .i64))]),blks:=[],alt:=[((.tup [.ptr 500 0 0, .t (.one (.int .i64))]),[(500, .var [.t (.int .i64), .t (.int .i64), .t (.int .i64), .t (.list 5), .buf 501, .buf 502]),(501, .arr 2),(502, .arr 1)])]})]),
 (18,0,[(2,18,{w:=0,own:=[],pre:=[],out:=(.one (.t (.one .bool))),blks:=[(0, .var [.t (.int .i64), .t (.int .i64), .t (.int .i64), .t (.list 5)])]})]),
 (25,0,[(1,1,{w:=0,own:=[],pre:=[],out:=(.tup [.nilp, .t (.one (.int .i64))]),blks:=[],alt:=[((.tup [.ptr 500 0 0, .t (.one (.int .i64))]),[(500, .var [.t (.int .i64), .t (.int .i64), .t (.int .i64), .t (.list 5), .buf 501, .buf 502]),(501, .arr 2),(502, .arr 1)])]}),(4,3,{w:=0,own:=[],pre:=[],out:=(.one (.t (.one (.list 1)))),blks:=[(0, .var [.t (.int .i64), .t (.int .i64), .t (.int .i64), .t (.list 5), .buf 1, .buf 2]),(1, .arr 2),(2, .arr 1)]})]),
 (32,0,[(12,2,{w:=0,own:=[],pre:=[],out:=(.one (.t (.agg [.int .i64, .str, .int .i64]))),blks:=[(0, .var [.t (.list 3), .t .bool])]}),(13,1,{w:=0,own:=[],pre:=[],out:=(.one (.t (.agg [.int .i64, .str, .int .i64]))),blks:=[(0, .var [.t (.list 3), .t .bool])]}),(14,1,{w:=0,own:=[],pre:=[],out:=(.one (.t (.agg [.int .i64, .str, .int .i64]))),blks:=[(0, .var [.t (.list 3), .t .bool])]}),(15,1,{w:=0,own:=[],pre:=[],out:=(.one (.t (.agg [.int .i64, .str, .int .i64]))),blks:=[(0, .var [.t (.list 3), .t .bool])]}),(16,3,{w:=0,own:=[],pre:=[],out:=(.one (.t (.agg [.int .i64, .int .i64, .int .i64, .int .i64, .int .i64]))),blks:=[(0, .var [.t (.list 3), .t .bool])]})]),
 (33,0,[(4,1,{w:=0,own:=[],pre:=[],out:=(.one (.ptr 500 0 0)),blks:=[(500, .var [.t (.int .i64), .t (.int .i64), .t (.int .i64), .t (.list 5), .buf 501, .buf 502]),(501, .arr 2),(502, .arr 1)]})]),
 (34,0,[(4,11,{w:=0,own:=[],pre:=[],out:=(.one (.t (.one .bool))),blks:=[(0, .var [.t (.int .i64), .t (.int .i64), .t (.int .i64), .t (.list 5), .buf 1, .buf 2]),(1, .arr 2),(2, .arr 1)]})]),
 (35,0,[(1,4,{w:=1,own:=[],pre:=[],out:=(.one (.t (.one .bool))),blks:=[(0, .var [.t (.int .i64)])]})]),
 (36,0,[(1,2,{w:=0,own:=[],pre:=[],out:=(.one (.t (.one (.int .i64)))),blks:=[(0, .var [.ptr 1 0 0]),(1, .var [.t (.int .i64), .t (.int .i64), .t (.int .i64), .t (.list 5), .buf 2, .buf 3]),(2, .arr 2),(3, .arr 1),(4, .var [.t (.int .i64)])]})]),
 (36,1,[(1,2,{w:=1,own:=[],pre:=[],out:=(.one (.t (.one (.int .i64)))),blks:=[(0, .var [.t (.int .i64)])]})]),
 (40,0,[(1,2,{w:=0,own:=[],pre:=[],out:=(.one (.t (.one (.int .i64)))),blks:=[(0, .var [.t (.int .i64), .t (.int .i64), .t (.int .i64), .t (.list 5)])]})]),
 (40,1,[(1,2,{w:=1,own:=[],pre:=[],out:=(.one (.t (.one (.int .i64)))),blks:=[(0, .var [.t (.int .i64), .t (.int .i64), .t (.int .i64), .t (.list 5)])]})]),
 (44,0,[(3,0,{w:=0,own:=[],pre:=[],out:=(.one (.agg [.ptr 0 0 1, .ptr 0 0 2, .ptr 0 0 3])),blks:=[(0, .var [.t (.int .i64), .t (.int .i64), .t (.int .i64), .t (.int .i64), .t (.int .i64)])]})]),
 (48,0,[(1,3,{w:=0,own:=[],pre:=[],out:=(.one (.t (.one .bool))),blks:=[(0, .var [.ptr 1 0 0]),(1, .var [.t (.int .i64), .t (.int .i64), .t (.int .i64), .t (.list 5), .buf 2, .buf 3]),(2, .arr 2),(3, .arr 1),(4, .var [.t (.int .i64)])]})]),
 (55,0,[(1,1,{w:=0,own:=[],pre:=[],out:=(.one (.t (.agg [.int .i64, .str, .int .i64]))),blks:=[(0, .var [.t (.list 3), .t .bool])]}),(2,2,{w:=0,own:=[],pre:=[],out:=(.one (.t (.one (.int .i64)))),blks:=[(0, .var [.t .str])]}),(6,0,{w:=0,own:=[],pre:=[],out:=(.one (.agg [.ptr 0 0 1, .ptr 0 0 2, .ptr 0 0 3])),blks:=[(0, .var [.t (.int .i64), .t (.int .i64), .t (.int .i64), .t (.int .i64), .t (.int .i64)])]}),(12,2,{w:=0,own:=[],pre:=[],out:=(.one (.t (.one (.int .i64)))),blks:=[(0, .var [.t (.list 3), .t .bool])]}),(14,2,{w:=0,own:=[],pre:=[],out:=(.one (.t (.one (.int .i64)))),blks:=[(0, .var [.t (.list 3), .t .bool])]}),(16,2,{w:=0,own:=[],pre:=[],out:=(.one (.t (.agg [.int .i64, .str, .int .i64]))),blks:=[(0, .var [.t (.list 3), .t .bool])]}),(18,1,{w:=0,own:=[],pre:=[],out:=(.one (.t (.one (.int .i64)))),blks:=[(0, .var [.t (.list 3), .t .bool])]})]),
 (56,0,[(15,3,{w:=0,own:=[],pre:=[],out:=(.tup []),blks:=[(0, .var [.ptr 1 0 0]),(1, .var [.t (.int .i64), .t (.int .i64), .t (.int .i64), .t (.list 5), .buf 2, .buf 3]),(2, .arr 2),(3, .arr 1),(4, .var [.buf 5]),(5, .arr 1)],alt:=[((.tup []),[(0, .var [.ptr 1 0 0]),(1, .var [.t (.int .i64), .t (.int .i64), .t (.int .i64), .t (.list 5), .buf 2, .buf 3]),(2, .arr 2),(3, .arr 1),(4, .var [.buf 500]),(500, .arr 1)])]})]),
 (57,0,[(4,5,{w:=0,own:=[],pre:=[],out:=(.one (.t (.one .bool))),blks:=[(0, .var [.ptr 1 0 0]),(1, .var [.t (.int .i64), .t (.int .i64), .t (.int .i64), .t (.list 5), .buf 2, .buf 3]),(2, .arr 2),(3, .arr 1),(4, .var [.t (.int .i64)])]})]),
 (57,1,[(4,5,{w:=0,own:=[],pre:=[],out:=(.one (.t (.one .bool))),blks:=[(0, .var [.t (.int .i64)])]})]),
 (59,0,[(4,5,{w:=0,own:=[],pre:=[],out:=(.one (.t (.one .bool))),blks:=[(0, .var [.t (.int .i64), .t (.int .i64), .t (.int .i64), .t (.list 5)])]})]),
 (59,1,[(4,5,{w:=0,own:=[],pre:=[],out:=(.one (.t (.one .bool))),blks:=[(0, .var [.t (.int .i64), .t (.int .i64), .t (.int .i64), .t (.list 5)])]})]),
 (72,0,[(4,5,{w:=0,own:=[],pre:=[],out:=(.one (.t (.one .bool))),blks:=[(0, .var [.t .str])]})]),
 (74,0,[(1,1,{w:=0,own:=[],pre:=[],out:=(.one (.t (.agg [.int .i64, .str, .int .i64]))),blks:=[(0, .var [.t (.list 3), .t .bool])]})]),
 (75,0,[(2,1,{w:=0,own:=[],pre:=[],out:=(.one (.t (.agg [.int .i64, .str, .int .i64]))),blks:=[(0, .var [.t (.list 3), .t .bool])]}),(3,1,{w:=0,own:=[],pre:=[],out:=(.one (.t (.agg [.int .i64, .str, .int .i64]))),blks:=[(0, .var [.t (.list 3), .t .bool])]}),(4,1,{w:=0,own:=[],pre:=[],out:=(.one (.t (.agg [.int .i64, .str, .int .i64]))),blks:=[(0, .var [.t (.list 3), .t .bool])]})])]
def unrollTab :List (Nat×Nat×Nat):=[(15,3,4),(21,16,4),(44,4,4),(55,7,4)]
def ownTab :List (Nat×Nat×List Nat):=[(17,0,[7001000])]
def eqtTab :List (Nat×List Value):=[(34,[.int .i64 0, .int .i64 0, .int .i64 0, .int .i64 0, .int .i64 0]),(72,[.int .u64 0, .int .u64 0])]
def ovSet :List (Nat×OvF):=[(79,ovIdx)]
def cutTab :List (Nat×Nat×Nat):=[(12,4,3),(24,4,3),(56,7,4)]
def hint :Hint:=mkHint eqtTab normTab callTab ownTab unrollTab ovSet cutTab
noncomputable abbrev gE(f w nt:Nat)(fn:Func)(T:Tab)(args:List V)(st:St) :Option Res:=codeT Try.prog hint f w nt T [] (resKV Try.prog fn (hint.own f w)) (nrm hint f w (bodyOf fn) (envV args 0) st).1 (nrm hint f w (bodyOf fn) (envV args 0) st).2 (bodyOf fn)
noncomputable abbrev gP(f w nt:Nat)(fn:Func)(T:Tab)(p:List Stp)(e:Env)(st:St) :Option Res:=codeT Try.prog hint f w nt T p (ctxT Try.prog hint f w nt T [] (List.reverse p) (bodyOf fn) (resKV Try.prog fn (hint.own f w))) e st (nav (List.reverse p) (bodyOf fn))
noncomputable def vr(f w:Nat)(args:List V)(st:St) :Option (V×St):=vrun Try.prog hint f w args st
abbrev YL67_2 :=ByteArray→Int→Option Res
def PaL67_2 :List Stp:=[.blk, .fst, .snd, .snd]
def Ta67(KL67_2:Env→St→Option Res) :Tab:=[(PaL67_2,KL67_2)]
def WL67_2(k:Env→St→Option Res)(s0:ByteArray)(n3:Int) :Option Res:=k [(0, .t (.str s0)),(3, .t (.int .i64 n3))] ⟨[],[]⟩
noncomputable def VL67_2 :Env→St→Option Res:=fun e st=>atV Try.prog hint 67 0 Try.f67 25 (List.reverse PaL67_2) e st
noncomputable def L67_2(s0:ByteArray)(n3:Int) :Option Res:=WL67_2 VL67_2 s0 n3
abbrev YL81_4 :=ByteArray→Int→Int→Int→Option Res
def PaL81_4 :List Stp:=[.blk, .snd, .fst, .snd, .snd]
def Ta81(KL81_4:Env→St→Option Res) :Tab:=[(PaL81_4,KL81_4)]
def WL81_4(k:Env→St→Option Res)(s0:ByteArray)(n2 A B:Int) :Option Res:=k [(0, .t (.str s0)),(2, .t (.int .i64 n2)),(23, .t (.int .i64 A)),(24, .t (.int .i64 B))] ⟨[],[]⟩
noncomputable def VL81_4 :Env→St→Option Res:=fun e st=>atV Try.prog hint 81 0 Try.f81 42 (List.reverse PaL81_4) e st
noncomputable def L81_4(s0:ByteArray)(n2 A B:Int) :Option Res:=WL81_4 VL81_4 s0 n2 A B
abbrev YL52_6 :=ByteArray→Bool→Int→Bool→(List T)→Option Res
abbrev YJ52_28 :=ByteArray→Bool→(List T)→Option Res
abbrev YJ52_21 :=ByteArray→Bool→Int→Int→Bool→(List T)→Option Res
abbrev YJ52_26 :=ByteArray→Int→Int→Bool→(List T)→Int→ByteArray→Int→Option Res
def PaL52_6 :List Stp:=[.blk, .fst, .snd, .snd, .snd, .snd, .snd, .blk, .snd]
def PaJ52_28 :List Stp:=[.snd, .snd, .snd, .snd, .snd, .snd, .blk, .snd]
def PaJ52_21 :List Stp:=[.snd, .snd, .blk, .snd, .lp, .blk, .fst, .snd, .snd, .snd, .snd, .snd, .blk, .snd]
def PaJ52_26 :List Stp:=[.snd, .snd, .snd, .snd, .snd, .blk, .snd, .lp, .blk, .fst, .snd, .snd, .snd, .snd, .snd, .blk, .snd]
def Ta52(KL52_6 KJ52_28 KJ52_21 KJ52_26:Env→St→Option Res) :Tab:=[(PaL52_6,KL52_6),(PaJ52_28,KJ52_28),(PaJ52_21,KJ52_21),(PaJ52_26,KJ52_26)]
def WL52_6(k:Env→St→Option Res)(s0:ByteArray)(ends6:Bool)(at7:Int)(A:Bool)(B:List T) :Option Res:=k [(0, .t (.str s0)),(5, .buf 8),(6, .t (.bool ends6)),(7, .t (.int .i64 at7))] ⟨[(8, .arr true 3 A B)],[]⟩
noncomputable def VL52_6 :Env→St→Option Res:=fun e st=>atV Try.prog hint 52 0 Try.f52 82 (List.reverse PaL52_6) e st
noncomputable def L52_6(s0:ByteArray)(ends6:Bool)(at7:Int)(A:Bool)(B:List T) :Option Res:=WL52_6 VL52_6 s0 ends6 at7 A B
def WJ52_28(k:Env→St→Option Res)(s0:ByteArray)(A:Bool)(B:List T) :Option Res:=k [(0, .t (.str s0)),(5, .buf 8)] ⟨[(8, .arr true 3 A B)],[]⟩
noncomputable def VJ52_28 :Env→St→Option Res:=fun e st=>atV Try.prog hint 52 0 Try.f52 82 (List.reverse PaJ52_28) e st
noncomputable def J52_28(s0:ByteArray)(A:Bool)(B:List T) :Option Res:=WJ52_28 VJ52_28 s0 A B
def WJ52_21(k:Env→St→Option Res)(s0:ByteArray)(ends6:Bool)(at7 n8:Int)(A:Bool)(B:List T) :Option Res:=k [(0, .t (.str s0)),(5, .buf 8),(6, .t (.bool ends6)),(7, .t (.int .i64 at7)),(8, .t (.int .i64 n8))] ⟨[(8, .arr true 3 A B)],[]⟩
noncomputable def VJ52_21 :Env→St→Option Res:=fun e st=>atV Try.prog hint 52 0 Try.f52 82 (List.reverse PaJ52_21) e st
noncomputable def J52_21(s0:ByteArray)(ends6:Bool)(at7 n8:Int)(A:Bool)(B:List T) :Option Res:=WJ52_21 VJ52_21 s0 ends6 at7 n8 A B
def WJ52_26(k:Env→St→Option Res)(s0:ByteArray)(at7 n8:Int)(A:Bool)(B:List T)(C:Int)(D:ByteArray)(E:Int) :Option Res:=k [(0, .t (.str s0)),(5, .buf 8),(7, .t (.int .i64 at7)),(8, .t (.int .i64 n8)),(9, .ptr 9 0 0)] ⟨[(8, .arr true 3 A B),(9, .var [.t (.int .i64 C), .t (.str D), .t (.int .i64 E)])],[]⟩
noncomputable def VJ52_26 :Env→St→Option Res:=fun e st=>atV Try.prog hint 52 0 Try.f52 82 (List.reverse PaJ52_26) e st
noncomputable def J52_26(s0:ByteArray)(at7 n8:Int)(A:Bool)(B:List T)(C:Int)(D:ByteArray)(E:Int) :Option Res:=WJ52_26 VJ52_26 s0 at7 n8 A B C D E
abbrev YL69_2 :=Bool→(List T)→Int→Int→Option Res
def PaL69_2 :List Stp:=[.blk, .snd, .fst, .snd]
def Ta69(KL69_2:Env→St→Option Res) :Tab:=[(PaL69_2,KL69_2)]
def WL69_2(k:Env→St→Option Res)(s0z:Bool)(s0:List T)(A B:Int) :Option Res:=k [(0, .t (.list 3 s0z s0)),(1, .fn 70 [] []),(7, .t (.int .i64 A)),(8, .t (.int .i64 B))] ⟨[],[]⟩
noncomputable def VL69_2 :Env→St→Option Res:=fun e st=>atV Try.prog hint 69 0 Try.f69 19 (List.reverse PaL69_2) e st
noncomputable def L69_2(s0z:Bool)(s0:List T)(A B:Int) :Option Res:=WL69_2 VL69_2 s0z s0 A B
abbrev YL53_2 :=Bool→(List T)→Bool→(List T)→Option Res
def PaL53_2 :List Stp:=[.blk, .fst, .snd, .snd]
def Ta53(KL53_2:Env→St→Option Res) :Tab:=[(PaL53_2,KL53_2)]
def WL53_2(k:Env→St→Option Res)(l0z:Bool)(l0:List T)(A:Bool)(B:List T) :Option Res:=k [(0, .t (.list 3 l0z l0)),(3, .buf 8)] ⟨[(8, .arr true 1 A B)],[]⟩
noncomputable def VL53_2 :Env→St→Option Res:=fun e st=>atV Try.prog hint 53 0 Try.f53 35 (List.reverse PaL53_2) e st
noncomputable def L53_2(l0z:Bool)(l0:List T)(A:Bool)(B:List T) :Option Res:=WL53_2 VL53_2 l0z l0 A B
abbrev YL72_2 :=Bool→(List T)→Int→Int→ByteArray→Option Res
def PaL72_2 :List Stp:=[.blk, .snd, .fst, .snd]
def Ta72(KL72_2:Env→St→Option Res) :Tab:=[(PaL72_2,KL72_2)]
def WL72_2(k:Env→St→Option Res)(s0z:Bool)(s0:List T)(A B:Int)(C:ByteArray) :Option Res:=k [(0, .t (.list 4 s0z s0)),(1, .fn 73 [] [.ptr 0 0 0]),(7, .t (.int .i64 A)),(8, .t (.int .i64 B))] ⟨[(0, .var [.t (.str C)])],[]⟩
noncomputable def VL72_2 :Env→St→Option Res:=fun e st=>atV Try.prog hint 72 0 Try.f72 19 (List.reverse PaL72_2) e st
noncomputable def L72_2(s0z:Bool)(s0:List T)(A B:Int)(C:ByteArray) :Option Res:=WL72_2 VL72_2 s0z s0 A B C
abbrev YJ55_6 :=Bool→(List T)→Bool→Int→Int→Int→Int→Int→ByteArray→Int→Int→Int→Option Res
def PaJ55_6 :List Stp:=[.snd, .snd, .snd, .snd, .snd]
def Ta55(KJ55_6:Env→St→Option Res) :Tab:=[(PaJ55_6,KJ55_6)]
def WJ55_6(k:Env→St→Option Res)(A:Bool)(B:List T)(C:Bool)(D E F G H:Int)(I:ByteArray)(J K L:Int) :Option Res:=k [(0, .ptr 0 0 0),(2, .ptr 8 0 0),(4, .ptr 9 0 0)] ⟨[(0, .var [.t (.list 3 A B), .t (.bool C)]),(8, .var [.t (.int .i64 D), .t (.int .i64 E), .t (.int .i64 F), .t (.int .i64 G), .t (.int .i64 H)]),(9, .var [.t (.str I), .t (.int .i64 J), .t (.int .i64 K), .t (.int .i64 L)])],[]⟩
noncomputable def VJ55_6 :Env→St→Option Res:=fun e st=>atV Try.prog hint 55 0 Try.f55 62 (List.reverse PaJ55_6) e st
noncomputable def J55_6(A:Bool)(B:List T)(C:Bool)(D E F G H:Int)(I:ByteArray)(J K L:Int) :Option Res:=WJ55_6 VJ55_6 A B C D E F G H I J K L
abbrev YL59_2 :=Bool→(List T)→Int→Int→Int→Int→Int→Bool→(List T)→Option Res
def PaL59_2 :List Stp:=[.blk, .snd, .fst, .snd]
def Ta59(KL59_2:Env→St→Option Res) :Tab:=[(PaL59_2,KL59_2)]
def WL59_2(k:Env→St→Option Res)(s0z:Bool)(s0:List T)(A B C D E:Int)(F:Bool)(G:List T) :Option Res:=k [(0, .t (.list 5 s0z s0)),(1, .fn 43 [] [.ptr 0 0 0]),(7, .t (.int .i64 A)),(8, .t (.int .i64 B))] ⟨[(0, .var [.t (.int .i64 C), .t (.int .i64 D), .t (.int .i64 E), .t (.list 5 F G)])],[]⟩
noncomputable def VL59_2 :Env→St→Option Res:=fun e st=>atV Try.prog hint 59 0 Try.f59 19 (List.reverse PaL59_2) e st
noncomputable def L59_2(s0z:Bool)(s0:List T)(A B C D E:Int)(F:Bool)(G:List T) :Option Res:=WL59_2 VL59_2 s0z s0 A B C D E F G
abbrev YL32_8 :=Bool→(List T)→Bool→(List T)→Int→Int→Int→Int→Int→Bool→(List T)→Option Res
abbrev YJ32_17 :=Bool→(List T)→Int→Bool→(List T)→Int→Int→Int→Int→Int→Bool→(List T)→Bool→(List T)→Bool→Option Res
def PaL32_8 :List Stp:=[.blk, .snd, .fst, .snd, .snd, .snd, .snd, .snd]
def PaJ32_17 :List Stp:=[.snd, .snd, .snd, .blk, .fst, .snd, .snd, .lp, .blk, .snd, .fst, .snd, .snd, .snd, .snd, .snd]
def Ta32(KL32_8 KJ32_17:Env→St→Option Res) :Tab:=[(PaL32_8,KL32_8),(PaJ32_17,KJ32_17)]
def WL32_8(k:Env→St→Option Res)(lines8z:Bool)(lines8:List T)(A:Bool)(B:List T)(C D E F G:Int)(H:Bool)(I:List T) :Option Res:=k [(2, .ptr 8 0 0),(8, .t (.list 1 lines8z lines8)),(30, .t (.list 1 A B)),(31, .t (.int .i64 C)),(32, .t (.int .i64 D))] ⟨[(8, .var [.t (.int .i64 E), .t (.int .i64 F), .t (.int .i64 G), .buf 9]),(9, .arr true 5 H I)],[]⟩
noncomputable def VL32_8 :Env→St→Option Res:=fun e st=>atV Try.prog hint 32 0 Try.f32 92 (List.reverse PaL32_8) e st
noncomputable def L32_8(lines8z:Bool)(lines8:List T)(A:Bool)(B:List T)(C D E F G:Int)(H:Bool)(I:List T) :Option Res:=WL32_8 VL32_8 lines8z lines8 A B C D E F G H I
def WJ32_17(k:Env→St→Option Res)(lines8z:Bool)(lines8:List T)(i9:Int)(A:Bool)(B:List T)(C D E F G:Int)(H:Bool)(I:List T)(J:Bool)(K:List T)(L:Bool) :Option Res:=k [(2, .ptr 8 0 0),(8, .t (.list 1 lines8z lines8)),(9, .t (.int .i64 i9)),(11, .ptr 10 0 0),(30, .t (.list 1 A B)),(31, .t (.int .i64 C)),(32, .t (.int .i64 D))] ⟨[(8, .var [.t (.int .i64 E), .t (.int .i64 F), .t (.int .i64 G), .buf 9]),(9, .arr true 5 H I),(10, .var [.t (.list 3 J K), .t (.bool L)])],[]⟩
noncomputable def VJ32_17 :Env→St→Option Res:=fun e st=>atV Try.prog hint 32 0 Try.f32 92 (List.reverse PaJ32_17) e st
noncomputable def J32_17(lines8z:Bool)(lines8:List T)(i9:Int)(A:Bool)(B:List T)(C D E F G:Int)(H:Bool)(I:List T)(J:Bool)(K:List T)(L:Bool) :Option Res:=WJ32_17 VJ32_17 lines8z lines8 i9 A B C D E F G H I J K L
abbrev YJ76_4 :=Int→Int→Int→Int→Bool→(List T)→Bool→(List T)→Bool→(List T)→Bool→(List T)→(List T)→Option Res
def PaJ76_4 :List Stp:=[.snd, .snd]
def Ta76(KJ76_4:Env→St→Option Res) :Tab:=[(PaJ76_4,KJ76_4)]
def WJ76_4(k:Env→St→Option Res)(k0 A B C:Int)(D:Bool)(E:List T)(F:Bool)(G:List T)(H:Bool)(I:List T)(J:Bool)(K L:List T) :Option Res:=k [(0, .t (.int .i64 k0)),(2, .ptr 0 0 0),(3, .ptr 4 0 0),(5, .ptr 8 0 0)] ⟨[(0, .var [.ptr 1 0 0]),(1, .var [.t (.int .i64 A), .t (.int .i64 B), .t (.int .i64 C), .t (.list 5 D E), .buf 2, .buf 3]),(2, .arr true 2 F G),(3, .arr true 1 H I),(4, .var [.buf 5]),(5, .arr true 1 J K),(8, .av L)],[]⟩
noncomputable def VJ76_4 :Env→St→Option Res:=fun e st=>atV Try.prog hint 76 0 Try.f76 48 (List.reverse PaJ76_4) e st
noncomputable def J76_4(k0 A B C:Int)(D:Bool)(E:List T)(F:Bool)(G:List T)(H:Bool)(I:List T)(J:Bool)(K L:List T) :Option Res:=WJ76_4 VJ76_4 k0 A B C D E F G H I J K L
abbrev YL56_5 :=Int→Int→Int→Bool→(List T)→Int→Int→Int→Bool→(List T)→Bool→(List T)→Bool→(List T)→Bool→(List T)→Option Res
abbrev YJ56_12 :=Int→Int→Int→Int→Bool→(List T)→Int→Int→Int→Bool→(List T)→Bool→(List T)→Bool→(List T)→Bool→(List T)→(List T)→Option Res
abbrev YL56_13 :=Bool→(List T)→Int→Int→Int→Int→Int→Bool→(List T)→Int→Int→Int→Bool→(List T)→Bool→(List T)→Bool→(List T)→Bool→(List T)→(List T)→Option Res
def PaL56_5 :List Stp:=[.blk, .fst, .snd, .snd, .snd, .snd, .snd]
def PaJ56_12 :List Stp:=[.snd, .snd, .snd, .snd, .blk, .snd, .lp, .blk, .fst, .snd, .snd, .snd, .snd, .snd]
def PaL56_13 :List Stp:=[.blk, .snd, .snd, .snd, .snd, .snd, .blk, .snd, .lp, .blk, .fst, .snd, .snd, .snd, .snd, .snd]
def Ta56(KL56_5 KJ56_12 KL56_13:Env→St→Option Res) :Tab:=[(PaL56_5,KL56_5),(PaJ56_12,KJ56_12),(PaL56_13,KL56_13)]
def WL56_5(k:Env→St→Option Res)(A B C:Int)(D:Bool)(E:List T)(F G H:Int)(I:Bool)(J:List T)(K:Bool)(L:List T)(M:Bool)(N:List T)(O:Bool)(P:List T) :Option Res:=k [(1, .ptr 8 0 0),(3, .ptr 9 0 0),(4, .ptr 13 0 0),(5, .fn 76 [] [.ptr 9 0 0, .ptr 13 0 0])] ⟨[(8, .var [.t (.int .i64 A), .t (.int .i64 B), .t (.int .i64 C), .t (.list 5 D E)]),(9, .var [.ptr 10 0 0]),(10, .var [.t (.int .i64 F), .t (.int .i64 G), .t (.int .i64 H), .t (.list 5 I J), .buf 11, .buf 12]),(11, .arr true 2 K L),(12, .arr true 1 M N),(13, .var [.buf 14]),(14, .arr true 1 O P)],[]⟩
noncomputable def VL56_5 :Env→St→Option Res:=fun e st=>atV Try.prog hint 56 0 Try.f56 82 (List.reverse PaL56_5) e st
noncomputable def L56_5(A B C:Int)(D:Bool)(E:List T)(F G H:Int)(I:Bool)(J:List T)(K:Bool)(L:List T)(M:Bool)(N:List T)(O:Bool)(P:List T) :Option Res:=WL56_5 VL56_5 A B C D E F G H I J K L M N O P
def WJ56_12(k:Env→St→Option Res)(i6 A B C:Int)(D:Bool)(E:List T)(F G H:Int)(I:Bool)(J:List T)(K:Bool)(L:List T)(M:Bool)(N:List T)(O:Bool)(P Q:List T) :Option Res:=k [(1, .ptr 8 0 0),(3, .ptr 9 0 0),(4, .ptr 13 0 0),(5, .fn 76 [] [.ptr 9 0 0, .ptr 13 0 0]),(6, .t (.int .i64 i6)),(7, .ptr 15 0 0)] ⟨[(8, .var [.t (.int .i64 A), .t (.int .i64 B), .t (.int .i64 C), .t (.list 5 D E)]),(9, .var [.ptr 10 0 0]),(10, .var [.t (.int .i64 F), .t (.int .i64 G), .t (.int .i64 H), .t (.list 5 I J), .buf 11, .buf 12]),(11, .arr true 2 K L),(12, .arr true 1 M N),(13, .var [.buf 14]),(14, .arr true 1 O P),(15, .av Q)],[]⟩
noncomputable def VJ56_12 :Env→St→Option Res:=fun e st=>atV Try.prog hint 56 0 Try.f56 82 (List.reverse PaJ56_12) e st
noncomputable def J56_12(i6 A B C:Int)(D:Bool)(E:List T)(F G H:Int)(I:Bool)(J:List T)(K:Bool)(L:List T)(M:Bool)(N:List T)(O:Bool)(P Q:List T) :Option Res:=WJ56_12 VJ56_12 i6 A B C D E F G H I J K L M N O P Q
def WL56_13(k:Env→St→Option Res)(A:Bool)(B:List T)(C D E F G:Int)(H:Bool)(I:List T)(J K L:Int)(M:Bool)(N:List T)(O:Bool)(P:List T)(Q:Bool)(R:List T)(S:Bool)(U V:List T) :Option Res:=k [(1, .ptr 8 0 0),(3, .ptr 9 0 0),(4, .ptr 13 0 0),(5, .fn 76 [] [.ptr 9 0 0, .ptr 13 0 0]),(7, .ptr 15 0 0),(70, .t (.list 1 A B)),(71, .t (.int .i64 C)),(72, .t (.int .i64 D))] ⟨[(8, .var [.t (.int .i64 E), .t (.int .i64 F), .t (.int .i64 G), .t (.list 5 H I)]),(9, .var [.ptr 10 0 0]),(10, .var [.t (.int .i64 J), .t (.int .i64 K), .t (.int .i64 L), .t (.list 5 M N), .buf 11, .buf 12]),(11, .arr true 2 O P),(12, .arr true 1 Q R),(13, .var [.buf 14]),(14, .arr true 1 S U),(15, .av V)],[]⟩
noncomputable def VL56_13 :Env→St→Option Res:=fun e st=>atV Try.prog hint 56 0 Try.f56 82 (List.reverse PaL56_13) e st
noncomputable def L56_13(A:Bool)(B:List T)(C D E F G:Int)(H:Bool)(I:List T)(J K L:Int)(M:Bool)(N:List T)(O:Bool)(P:List T)(Q:Bool)(R:List T)(S:Bool)(U V:List T) :Option Res:=WL56_13 VL56_13 A B C D E F G H I J K L M N O P Q R S U V
abbrev YL57_2 :=Bool→(List T)→Int→Int→Int→Int→Int→Bool→(List T)→Bool→(List T)→Bool→(List T)→Int→Option Res
def PaL57_2 :List Stp:=[.blk, .snd, .fst, .snd]
def Ta57(KL57_2:Env→St→Option Res) :Tab:=[(PaL57_2,KL57_2)]
def WL57_2(k:Env→St→Option Res)(s0z:Bool)(s0:List T)(A B C D E:Int)(F:Bool)(G:List T)(H:Bool)(I:List T)(J:Bool)(K:List T)(L:Int) :Option Res:=k [(0, .t (.list 1 s0z s0)),(1, .fn 62 [] [.ptr 0 0 0, .ptr 4 0 0]),(7, .t (.int .i64 A)),(8, .t (.int .i64 B))] ⟨[(0, .var [.ptr 1 0 0]),(1, .var [.t (.int .i64 C), .t (.int .i64 D), .t (.int .i64 E), .t (.list 5 F G), .buf 2, .buf 3]),(2, .arr true 2 H I),(3, .arr true 1 J K),(4, .var [.t (.int .i64 L)])],[]⟩
noncomputable def VL57_2 :Env→St→Option Res:=fun e st=>atV Try.prog hint 57 0 Try.f57 19 (List.reverse PaL57_2) e st
noncomputable def L57_2(s0z:Bool)(s0:List T)(A B C D E:Int)(F:Bool)(G:List T)(H:Bool)(I:List T)(J:Bool)(K:List T)(L:Int) :Option Res:=WL57_2 VL57_2 s0z s0 A B C D E F G H I J K L
abbrev YL34_2 :=Bool→(List T)→Int→Int→Int→Int→Int→Bool→(List T)→Bool→(List T)→Bool→(List T)→Bool→(List T)→Option Res
def PaL34_2 :List Stp:=[.blk, .snd, .fst, .snd]
def Ta34(KL34_2:Env→St→Option Res) :Tab:=[(PaL34_2,KL34_2)]
def WL34_2(k:Env→St→Option Res)(A:Bool)(B:List T)(C D E F G:Int)(H:Bool)(I:List T)(J:Bool)(K:List T)(L:Bool)(M:List T)(N:Bool)(O:List T) :Option Res:=k [(0, .ptr 0 0 0),(1, .fn 48 [.ptr 0 0 0] []),(4, .buf 8),(11, .t (.list 5 A B)),(12, .t (.int .i64 C)),(13, .t (.int .i64 D))] ⟨[(0, .var [.t (.int .i64 E), .t (.int .i64 F), .t (.int .i64 G), .t (.list 5 H I), .buf 1, .buf 2]),(1, .arr true 2 J K),(2, .arr true 1 L M),(8, .arr true 1 N O)],[]⟩
noncomputable def VL34_2 :Env→St→Option Res:=fun e st=>atV Try.prog hint 34 0 Try.f34 37 (List.reverse PaL34_2) e st
noncomputable def L34_2(A:Bool)(B:List T)(C D E F G:Int)(H:Bool)(I:List T)(J:Bool)(K:List T)(L:Bool)(M:List T)(N:Bool)(O:List T) :Option Res:=WL34_2 VL34_2 A B C D E F G H I J K L M N O
abbrev YL20_4 :=Bool→(List T)→Bool→(List T)→Int→Int→Option Res
def PaL20_4 :List Stp:=[.blk, .snd, .fst, .snd, .snd]
def Ta20(KL20_4:Env→St→Option Res) :Tab:=[(PaL20_4,KL20_4)]
def WL20_4(k:Env→St→Option Res)(A:Bool)(B:List T)(b1z:Bool)(b1:List T)(C D:Int) :Option Res:=k [(0, .t (.list 1 A B)),(1, .t (.list 1 b1z b1)),(12, .t (.int .i64 C)),(13, .t (.int .i64 D))] ⟨[],[]⟩
noncomputable def VL20_4 :Env→St→Option Res:=fun e st=>atV Try.prog hint 20 0 Try.f20 26 (List.reverse PaL20_4) e st
noncomputable def L20_4(A:Bool)(B:List T)(b1z:Bool)(b1:List T)(C D:Int) :Option Res:=WL20_4 VL20_4 A B b1z b1 C D
abbrev YL59v1_2 :=Bool→(List T)→Int→Int→Int→Int→Int→Bool→(List T)→Option Res
def PaL59v1_2 :List Stp:=[.blk, .snd, .fst, .snd]
def Ta59v1(KL59v1_2:Env→St→Option Res) :Tab:=[(PaL59v1_2,KL59v1_2)]
def WL59v1_2(k:Env→St→Option Res)(s0z:Bool)(s0:List T)(A B C D E:Int)(F:Bool)(G:List T) :Option Res:=k [(0, .t (.list 5 s0z s0)),(1, .fn 41 [] [.ptr 0 0 0]),(7, .t (.int .i64 A)),(8, .t (.int .i64 B))] ⟨[(0, .var [.t (.int .i64 C), .t (.int .i64 D), .t (.int .i64 E), .t (.list 5 F G)])],[]⟩
noncomputable def VL59v1_2 :Env→St→Option Res:=fun e st=>atV Try.prog hint 59 1 Try.f59 19 (List.reverse PaL59v1_2) e st
noncomputable def L59v1_2(s0z:Bool)(s0:List T)(A B C D E:Int)(F:Bool)(G:List T) :Option Res:=WL59v1_2 VL59v1_2 s0z s0 A B C D E F G
abbrev YL60_7 :=ByteArray→Bool→(List T)→Bool→Int→Int→Int→Int→Int→Int→Int→Int→Int→Bool→(List T)→Option Res
abbrev YJ60_12 :=ByteArray→Bool→(List T)→Bool→Int→Int→Int→Int→Int→Int→Int→Int→Int→Int→Int→Bool→(List T)→Option Res
abbrev YJ60_23 :=ByteArray→Bool→(List T)→Bool→Int→Int→Int→Int→Int→Int→Int→Int→Int→Int→Int→Bool→(List T)→Option Res
def PaL60_7 :List Stp:=[.blk, .snd, .fst, .snd, .snd, .snd, .snd, .snd]
def PaJ60_12 :List Stp:=[.snd, .snd, .snd, .blk, .fst, .snd, .snd, .lp, .blk, .snd, .fst, .snd, .snd, .snd, .snd, .snd]
def PaJ60_23 :List Stp:=[.snd, .snd, .snd, .snd, .snd, .blk, .fst, .snd, .snd, .lp, .blk, .snd, .fst, .snd, .snd, .snd, .snd, .snd]
def Ta60(KL60_7 KJ60_12 KJ60_23:Env→St→Option Res) :Tab:=[(PaL60_7,KL60_7),(PaJ60_12,KJ60_12),(PaJ60_23,KJ60_23)]
def WL60_7(k:Env→St→Option Res)(kinds6:ByteArray)(f7z:Bool)(f7:List T)(n8:Bool)(A B C D E F G H I:Int)(J:Bool)(K:List T) :Option Res:=k [(2, .ptr 8 0 0),(3, .ptr 9 0 0),(6, .t (.str kinds6)),(7, .t (.list 1 f7z f7)),(8, .t (.bool n8)),(22, .t (.int .i64 A))] ⟨[(8, .var [.t (.int .i64 B), .t (.int .i64 C), .t (.int .i64 D), .t (.int .i64 E), .t (.int .i64 F)]),(9, .var [.t (.int .i64 G), .t (.int .i64 H), .t (.int .i64 I), .t (.list 5 J K)])],[]⟩
noncomputable def VL60_7 :Env→St→Option Res:=fun e st=>atV Try.prog hint 60 0 Try.f60 76 (List.reverse PaL60_7) e st
noncomputable def L60_7(kinds6:ByteArray)(f7z:Bool)(f7:List T)(n8:Bool)(A B C D E F G H I:Int)(J:Bool)(K:List T) :Option Res:=WL60_7 VL60_7 kinds6 f7z f7 n8 A B C D E F G H I J K
def WJ60_12(k:Env→St→Option Res)(kinds6:ByteArray)(f7z:Bool)(f7:List T)(n8:Bool)(i9 kind10 A B C D E F G H I:Int)(J:Bool)(K:List T) :Option Res:=k [(2, .ptr 8 0 0),(3, .ptr 9 0 0),(6, .t (.str kinds6)),(7, .t (.list 1 f7z f7)),(8, .t (.bool n8)),(9, .t (.int .i64 i9)),(10, .t (.int .u8 kind10)),(22, .t (.int .i64 A))] ⟨[(8, .var [.t (.int .i64 B), .t (.int .i64 C), .t (.int .i64 D), .t (.int .i64 E), .t (.int .i64 F)]),(9, .var [.t (.int .i64 G), .t (.int .i64 H), .t (.int .i64 I), .t (.list 5 J K)])],[]⟩
noncomputable def VJ60_12 :Env→St→Option Res:=fun e st=>atV Try.prog hint 60 0 Try.f60 76 (List.reverse PaJ60_12) e st
noncomputable def J60_12(kinds6:ByteArray)(f7z:Bool)(f7:List T)(n8:Bool)(i9 kind10 A B C D E F G H I:Int)(J:Bool)(K:List T) :Option Res:=WJ60_12 VJ60_12 kinds6 f7z f7 n8 i9 kind10 A B C D E F G H I J K
def WJ60_23(k:Env→St→Option Res)(kinds6:ByteArray)(f7z:Bool)(f7:List T)(n8:Bool)(i9 limit11 A B C D E F G H I:Int)(J:Bool)(K:List T) :Option Res:=k [(2, .ptr 8 0 0),(3, .ptr 9 0 0),(6, .t (.str kinds6)),(7, .t (.list 1 f7z f7)),(8, .t (.bool n8)),(9, .t (.int .i64 i9)),(11, .t (.int .i64 limit11)),(22, .t (.int .i64 A))] ⟨[(8, .var [.t (.int .i64 B), .t (.int .i64 C), .t (.int .i64 D), .t (.int .i64 E), .t (.int .i64 F)]),(9, .var [.t (.int .i64 G), .t (.int .i64 H), .t (.int .i64 I), .t (.list 5 J K)])],[]⟩
noncomputable def VJ60_23 :Env→St→Option Res:=fun e st=>atV Try.prog hint 60 0 Try.f60 76 (List.reverse PaJ60_23) e st
noncomputable def J60_23(kinds6:ByteArray)(f7z:Bool)(f7:List T)(n8:Bool)(i9 limit11 A B C D E F G H I:Int)(J:Bool)(K:List T) :Option Res:=WJ60_23 VJ60_23 kinds6 f7z f7 n8 i9 limit11 A B C D E F G H I J K
abbrev YL46_3 :=Bool→Bool→(List T)→Int→Int→Int→Int→Int→Bool→(List T)→Option Res
def PaL46_3 :List Stp:=[.blk, .snd, .fst, .snd, .snd]
def Ta46(KL46_3:Env→St→Option Res) :Tab:=[(PaL46_3,KL46_3)]
def WL46_3(k:Env→St→Option Res)(ok3 A:Bool)(B:List T)(C D E F G:Int)(H:Bool)(I:List T) :Option Res:=k [(1, .ptr 8 0 0),(3, .t (.bool ok3)),(50, .t (.list 5 A B)),(51, .t (.int .i64 C)),(52, .t (.int .i64 D))] ⟨[(8, .var [.t (.int .i64 E), .t (.int .i64 F), .t (.int .i64 G), .t (.list 5 H I)])],[]⟩
noncomputable def VL46_3 :Env→St→Option Res:=fun e st=>atV Try.prog hint 46 0 Try.f46 81 (List.reverse PaL46_3) e st
noncomputable def L46_3(ok3 A:Bool)(B:List T)(C D E F G:Int)(H:Bool)(I:List T) :Option Res:=WL46_3 VL46_3 ok3 A B C D E F G H I
abbrev YL47_4 :=Int→Int→Int→Int→Int→Int→Bool→(List T)→Bool→(List T)→Option Res
abbrev YL47_6 :=Int→Int→Int→Bool→(List T)→Int→Int→Int→Int→Int→Bool→(List T)→Bool→(List T)→Option Res
abbrev YL47_11 :=Int→Int→Int→Bool→(List T)→Int→Int→Bool→(List T)→Int→Int→Int→Int→Int→Bool→(List T)→Bool→(List T)→Option Res
def PaL47_4 :List Stp:=[.blk, .snd, .fst, .snd, .snd, .snd]
def PaL47_6 :List Stp:=[.blk, .snd, .blk, .fst, .snd, .snd, .lp, .blk, .snd, .fst, .snd, .snd, .snd]
def PaL47_11 :List Stp:=[.blk, .snd, .snd, .snd, .snd, .blk, .fst, .snd, .snd, .lp, .blk, .snd, .blk, .fst, .snd, .snd, .lp, .blk, .snd, .fst, .snd, .snd, .snd]
def Ta47(KL47_4 KL47_6 KL47_11:Env→St→Option Res) :Tab:=[(PaL47_4,KL47_4),(PaL47_6,KL47_6),(PaL47_11,KL47_11)]
def WL47_4(k:Env→St→Option Res)(but1 A B C D E:Int)(F:Bool)(G:List T)(H:Bool)(I:List T) :Option Res:=k [(1, .t (.int .i64 but1)),(2, .ptr 8 0 0),(5, .buf 9),(20, .t (.int .i64 A)),(21, .t (.int .i64 B))] ⟨[(8, .var [.t (.int .i64 C), .t (.int .i64 D), .t (.int .i64 E), .t (.list 5 F G)]),(9, .arr true 1 H I)],[]⟩
noncomputable def VL47_4 :Env→St→Option Res:=fun e st=>atV Try.prog hint 47 0 Try.f47 64 (List.reverse PaL47_4) e st
noncomputable def L47_4(but1 A B C D E:Int)(F:Bool)(G:List T)(H:Bool)(I:List T) :Option Res:=WL47_4 VL47_4 but1 A B C D E F G H I
def WL47_6(k:Env→St→Option Res)(but1 A B:Int)(C:Bool)(D:List T)(E F G H I:Int)(J:Bool)(K:List T)(L:Bool)(M:List T) :Option Res:=k [(1, .t (.int .i64 but1)),(2, .ptr 8 0 0),(5, .buf 9),(20, .t (.int .i64 A)),(21, .t (.int .i64 B)),(24, .t (.list 5 C D)),(25, .t (.int .i64 E)),(26, .t (.int .i64 F))] ⟨[(8, .var [.t (.int .i64 G), .t (.int .i64 H), .t (.int .i64 I), .t (.list 5 J K)]),(9, .arr true 1 L M)],[]⟩
noncomputable def VL47_6 :Env→St→Option Res:=fun e st=>atV Try.prog hint 47 0 Try.f47 64 (List.reverse PaL47_6) e st
noncomputable def L47_6(but1 A B:Int)(C:Bool)(D:List T)(E F G H I:Int)(J:Bool)(K:List T)(L:Bool)(M:List T) :Option Res:=WL47_6 VL47_6 but1 A B C D E F G H I J K L M
def WL47_11(k:Env→St→Option Res)(but1 A B:Int)(C:Bool)(D:List T)(E F:Int)(G:Bool)(H:List T)(I J K L M:Int)(N:Bool)(O:List T)(P:Bool)(Q:List T) :Option Res:=k [(1, .t (.int .i64 but1)),(2, .ptr 8 0 0),(5, .buf 9),(20, .t (.int .i64 A)),(21, .t (.int .i64 B)),(24, .t (.list 5 C D)),(25, .t (.int .i64 E)),(26, .t (.int .i64 F)),(51, .t (.list 1 G H)),(52, .t (.int .i64 I)),(53, .t (.int .i64 J))] ⟨[(8, .var [.t (.int .i64 K), .t (.int .i64 L), .t (.int .i64 M), .t (.list 5 N O)]),(9, .arr true 1 P Q)],[]⟩
noncomputable def VL47_11 :Env→St→Option Res:=fun e st=>atV Try.prog hint 47 0 Try.f47 64 (List.reverse PaL47_11) e st
noncomputable def L47_11(but1 A B:Int)(C:Bool)(D:List T)(E F:Int)(G:Bool)(H:List T)(I J K L M:Int)(N:Bool)(O:List T)(P:Bool)(Q:List T) :Option Res:=WL47_11 VL47_11 but1 A B C D E F G H I J K L M N O P Q
abbrev YL12_6 :=Int→Int→Int→Int→Int→Bool→(List T)→Int→Int→Int→Bool→(List T)→Bool→(List T)→Bool→(List T)→(List RowV)→Option Res
abbrev YL12_9 :=Int→Int→Int→Int→Int→Int→Int→Bool→(List T)→Int→Int→Int→Bool→(List T)→Bool→(List T)→Bool→(List T)→(List RowV)→(List T)→Option Res
def PaL12_6 :List Stp:=[.blk, .snd, .fst, .snd, .snd, .snd, .snd]
def PaL12_9 :List Stp:=[.blk, .snd, .snd, .blk, .fst, .snd, .snd, .lp, .blk, .snd, .fst, .snd, .snd, .snd, .snd]
def Ta12(KL12_6 KL12_9:Env→St→Option Res) :Tab:=[(PaL12_6,KL12_6),(PaL12_9,KL12_9)]
def WL12_6(k:Env→St→Option Res)(A B C D E:Int)(F:Bool)(G:List T)(H I J:Int)(K:Bool)(L:List T)(M:Bool)(N:List T)(O:Bool)(P:List T)(Q:List RowV) :Option Res:=k [(1, .ptr 8 0 0),(4, .ptr 9 0 0),(6, .buf 12),(25, .buf 10),(26, .t (.int .i64 A)),(27, .t (.int .i64 B))] ⟨[(8, .var [.t (.int .i64 C), .t (.int .i64 D), .t (.int .i64 E), .t (.list 5 F G)]),(9, .var [.t (.int .i64 H), .t (.int .i64 I), .t (.int .i64 J), .t (.list 5 K L), .buf 10, .buf 11]),(10, .arr true 2 M N),(11, .arr true 1 O P),(12, .rows 1 Q)],[]⟩
noncomputable def VL12_6 :Env→St→Option Res:=fun e st=>atV Try.prog hint 12 0 Try.f12 62 (List.reverse PaL12_6) e st
noncomputable def L12_6(A B C D E:Int)(F:Bool)(G:List T)(H I J:Int)(K:Bool)(L:List T)(M:Bool)(N:List T)(O:Bool)(P:List T)(Q:List RowV) :Option Res:=WL12_6 VL12_6 A B C D E F G H I J K L M N O P Q
def WL12_9(k:Env→St→Option Res)(i7 n9 A B C D E:Int)(F:Bool)(G:List T)(H I J:Int)(K:Bool)(L:List T)(M:Bool)(N:List T)(O:Bool)(P:List T)(Q:List RowV)(R:List T) :Option Res:=k [(1, .ptr 8 0 0),(4, .ptr 9 0 0),(6, .buf 12),(7, .t (.int .i64 i7)),(8, .ptr 13 0 0),(9, .t (.int .i64 n9)),(25, .buf 10),(26, .t (.int .i64 A)),(27, .t (.int .i64 B))] ⟨[(8, .var [.t (.int .i64 C), .t (.int .i64 D), .t (.int .i64 E), .t (.list 5 F G)]),(9, .var [.t (.int .i64 H), .t (.int .i64 I), .t (.int .i64 J), .t (.list 5 K L), .buf 10, .buf 11]),(10, .arr true 2 M N),(11, .arr true 1 O P),(12, .rows 1 Q),(13, .av R)],[]⟩
noncomputable def VL12_9 :Env→St→Option Res:=fun e st=>atV Try.prog hint 12 0 Try.f12 62 (List.reverse PaL12_9) e st
noncomputable def L12_9(i7 n9 A B C D E:Int)(F:Bool)(G:List T)(H I J:Int)(K:Bool)(L:List T)(M:Bool)(N:List T)(O:Bool)(P:List T)(Q:List RowV)(R:List T) :Option Res:=WL12_9 VL12_9 i7 n9 A B C D E F G H I J K L M N O P Q R
abbrev YL24_6 :=Bool→(List T)→Int→Int→Int→Int→Int→Bool→(List T)→(List RowV)→Option Res
abbrev YL24_10 :=Bool→(List T)→Int→Bool→(List T)→Int→Int→Int→Int→Int→Int→Int→Bool→(List T)→(List RowV)→Option Res
def PaL24_6 :List Stp:=[.blk, .snd, .fst, .snd, .snd, .snd, .snd]
def PaL24_10 :List Stp:=[.blk, .snd, .snd, .snd, .blk, .fst, .snd, .snd, .lp, .blk, .snd, .fst, .snd, .snd, .snd, .snd]
def Ta24(KL24_6 KL24_10:Env→St→Option Res) :Tab:=[(PaL24_6,KL24_6),(PaL24_10,KL24_10)]
def WL24_6(k:Env→St→Option Res)(all4z:Bool)(all4:List T)(A B C D E:Int)(F:Bool)(G:List T)(H:List RowV) :Option Res:=k [(1, .ptr 8 0 0),(4, .t (.list 1 all4z all4)),(6, .buf 9),(23, .t (.int .i64 A)),(24, .t (.int .i64 B))] ⟨[(8, .var [.t (.int .i64 C), .t (.int .i64 D), .t (.int .i64 E), .t (.list 5 F G)]),(9, .rows 1 H)],[]⟩
noncomputable def VL24_6 :Env→St→Option Res:=fun e st=>atV Try.prog hint 24 0 Try.f24 60 (List.reverse PaL24_6) e st
noncomputable def L24_6(all4z:Bool)(all4:List T)(A B C D E:Int)(F:Bool)(G:List T)(H:List RowV) :Option Res:=WL24_6 VL24_6 all4z all4 A B C D E F G H
def WL24_10(k:Env→St→Option Res)(all4z:Bool)(all4:List T)(n7:Int)(without8z:Bool)(without8:List T)(A B C D E F G:Int)(H:Bool)(I:List T)(J:List RowV) :Option Res:=k [(1, .ptr 8 0 0),(4, .t (.list 1 all4z all4)),(6, .buf 9),(7, .t (.int .i64 n7)),(8, .t (.list 1 without8z without8)),(23, .t (.int .i64 A)),(24, .t (.int .i64 B)),(32, .t (.int .i64 C)),(33, .t (.int .i64 D))] ⟨[(8, .var [.t (.int .i64 E), .t (.int .i64 F), .t (.int .i64 G), .t (.list 5 H I)]),(9, .rows 1 J)],[]⟩
noncomputable def VL24_10 :Env→St→Option Res:=fun e st=>atV Try.prog hint 24 0 Try.f24 60 (List.reverse PaL24_10) e st
noncomputable def L24_10(all4z:Bool)(all4:List T)(n7:Int)(without8z:Bool)(without8:List T)(A B C D E F G:Int)(H:Bool)(I:List T)(J:List RowV) :Option Res:=WL24_10 VL24_10 all4z all4 n7 without8z without8 A B C D E F G H I J
abbrev YL49_4 :=ByteArray→Int→Int→Int→Int→Int→Int→Int→Bool→(List T)→Option Res
def PaL49_4 :List Stp:=[.blk, .snd, .fst, .snd, .snd, .snd]
def Ta49(KL49_4:Env→St→Option Res) :Tab:=[(PaL49_4,KL49_4)]
def WL49_4(k:Env→St→Option Res)(kinds4:ByteArray)(A B C D E F G:Int)(H:Bool)(I:List T) :Option Res:=k [(1, .ptr 8 0 0),(4, .t (.str kinds4)),(5, .buf 9),(14, .t (.int .i64 A)),(15, .t (.int .i64 B))] ⟨[(8, .var [.t (.int .i64 C), .t (.int .i64 D), .t (.int .i64 E), .t (.int .i64 F), .t (.int .i64 G)]),(9, .arr true 1 H I)],[]⟩
noncomputable def VL49_4 :Env→St→Option Res:=fun e st=>atV Try.prog hint 49 0 Try.f49 32 (List.reverse PaL49_4) e st
noncomputable def L49_4(kinds4:ByteArray)(A B C D E F G:Int)(H:Bool)(I:List T) :Option Res:=WL49_4 VL49_4 kinds4 A B C D E F G H I
abbrev YL50_2 :=Int→Bool→(List T)→Int→Int→Option Res
def PaL50_2 :List Stp:=[.blk, .snd, .fst, .snd]
def Ta50(KL50_2:Env→St→Option Res) :Tab:=[(PaL50_2,KL50_2)]
def WL50_2(k:Env→St→Option Res)(n1:Int)(A:Bool)(B:List T)(C D:Int) :Option Res:=k [(1, .t (.int .i64 n1)),(7, .t (.list 1 A B)),(8, .t (.int .i64 C)),(9, .t (.int .i64 D))] ⟨[],[]⟩
noncomputable def VL50_2 :Env→St→Option Res:=fun e st=>atV Try.prog hint 50 0 Try.f50 17 (List.reverse PaL50_2) e st
noncomputable def L50_2(n1:Int)(A:Bool)(B:List T)(C D:Int) :Option Res:=WL50_2 VL50_2 n1 A B C D
abbrev YL26_7 :=Bool→(List T)→Bool→(List T)→Bool→(List T)→Int→Int→Bool→(List T)→Option Res
abbrev YL26_11 :=Bool→(List T)→Bool→(List T)→Int→Bool→Bool→(List T)→Int→Int→Bool→(List T)→Int→Int→Bool→(List T)→Option Res
def PaL26_7 :List Stp:=[.blk, .snd, .fst, .snd, .snd, .snd, .snd, .snd]
def PaL26_11 :List Stp:=[.blk, .snd, .fst, .snd, .snd, .blk, .fst, .snd, .snd, .lp, .blk, .snd, .fst, .snd, .snd, .snd, .snd, .snd]
def Ta26(KL26_7 KL26_11:Env→St→Option Res) :Tab:=[(PaL26_7,KL26_7),(PaL26_11,KL26_11)]
def WL26_7(k:Env→St→Option Res)(all4z:Bool)(all4:List T)(set6z:Bool)(set6:List T)(A:Bool)(B:List T)(C D:Int)(E:Bool)(F:List T) :Option Res:=k [(4, .t (.list 1 all4z all4)),(6, .t (.list 1 set6z set6)),(8, .buf 8),(28, .t (.list 5 A B)),(29, .t (.int .i64 C)),(30, .t (.int .i64 D))] ⟨[(8, .arr true 1 E F)],[]⟩
noncomputable def VL26_7 :Env→St→Option Res:=fun e st=>atV Try.prog hint 26 0 Try.f26 66 (List.reverse PaL26_7) e st
noncomputable def L26_7(all4z:Bool)(all4:List T)(set6z:Bool)(set6:List T)(A:Bool)(B:List T)(C D:Int)(E:Bool)(F:List T) :Option Res:=WL26_7 VL26_7 all4z all4 set6z set6 A B C D E F
def WL26_11(k:Env→St→Option Res)(all4z:Bool)(all4:List T)(set6z:Bool)(set6:List T)(i9:Int)(bad11 A:Bool)(B:List T)(C D:Int)(E:Bool)(F:List T)(G H:Int)(I:Bool)(J:List T) :Option Res:=k [(4, .t (.list 1 all4z all4)),(6, .t (.list 1 set6z set6)),(8, .buf 8),(9, .t (.int .i64 i9)),(11, .t (.bool bad11)),(28, .t (.list 5 A B)),(29, .t (.int .i64 C)),(30, .t (.int .i64 D)),(36, .t (.list 1 E F)),(37, .t (.int .i64 G)),(38, .t (.int .i64 H))] ⟨[(8, .arr true 1 I J)],[]⟩
noncomputable def VL26_11 :Env→St→Option Res:=fun e st=>atV Try.prog hint 26 0 Try.f26 66 (List.reverse PaL26_11) e st
noncomputable def L26_11(all4z:Bool)(all4:List T)(set6z:Bool)(set6:List T)(i9:Int)(bad11 A:Bool)(B:List T)(C D:Int)(E:Bool)(F:List T)(G H:Int)(I:Bool)(J:List T) :Option Res:=WL26_11 VL26_11 all4z all4 set6z set6 i9 bad11 A B C D E F G H I J
abbrev YL17_7 :=Bool→(List T)→Int→Int→Int→Int→Int→Bool→(List T)→Int→Int→Int→Bool→(List T)→Int→Int→Int→Bool→(List T)→Bool→(List T)→Bool→(List T)→Bool→(List T)→Option Res
abbrev YL17_14 :=Int→Int→Int→Int→Int→Bool→(List T)→Int→Int→Int→Bool→(List T)→Bool→(List T)→Option Res
def PaL17_7 :List Stp:=[.blk, .snd, .fst, .snd, .snd, .snd, .snd, .snd]
def PaL17_14 :List Stp:=[.blk, .snd, .fst, .snd, .snd, .snd, .snd, .snd, .snd]
def Ta17(KL17_7 KL17_14:Env→St→Option Res) :Tab:=[(PaL17_7,KL17_7),(PaL17_14,KL17_14)]
def WL17_7(k:Env→St→Option Res)(A:Bool)(B:List T)(C D E F G:Int)(H:Bool)(I:List T)(J K L:Int)(M:Bool)(N:List T)(O P Q:Int)(R:Bool)(S:List T)(U:Bool)(V:List T)(W:Bool)(X:List T)(Y:Bool)(Z:List T) :Option Res:=k [(1, .ptr 8 0 0),(2, .ptr 10 0 0),(4, .ptr 11 0 0),(6, .buf 14),(29, .t (.list 5 A B)),(30, .t (.int .i64 C)),(31, .t (.int .i64 D))] ⟨[(8, .var [.t (.int .i64 E), .t (.int .i64 F), .t (.int .i64 G), .buf 9]),(9, .arr true 5 H I),(10, .var [.t (.int .i64 J), .t (.int .i64 K), .t (.int .i64 L), .t (.list 5 M N)]),(11, .var [.t (.int .i64 O), .t (.int .i64 P), .t (.int .i64 Q), .t (.list 5 R S), .buf 12, .buf 13]),(12, .arr true 2 U V),(13, .arr true 1 W X),(14, .arr true 1 Y Z)],[]⟩
noncomputable def VL17_7 :Env→St→Option Res:=fun e st=>atV Try.prog hint 17 0 Try.f17 97 (List.reverse PaL17_7) e st
noncomputable def L17_7(A:Bool)(B:List T)(C D E F G:Int)(H:Bool)(I:List T)(J K L:Int)(M:Bool)(N:List T)(O P Q:Int)(R:Bool)(S:List T)(U:Bool)(V:List T)(W:Bool)(X:List T)(Y:Bool)(Z:List T) :Option Res:=WL17_7 VL17_7 A B C D E F G H I J K L M N O P Q R S U V W X Y Z
def WL17_14(k:Env→St→Option Res)(A B C D E:Int)(F:Bool)(G:List T)(H I J:Int)(K:Bool)(L:List T)(M:Bool)(N:List T) :Option Res:=k [(1, .ptr 8 0 0),(2, .ptr 10 0 0),(6, .buf 11),(58, .t (.int .i64 A)),(59, .t (.int .i64 B))] ⟨[(8, .var [.t (.int .i64 C), .t (.int .i64 D), .t (.int .i64 E), .buf 9]),(9, .arr true 5 F G),(10, .var [.t (.int .i64 H), .t (.int .i64 I), .t (.int .i64 J), .t (.list 5 K L)]),(11, .arr true 1 M N)],[]⟩
noncomputable def VL17_14 :Env→St→Option Res:=fun e st=>atV Try.prog hint 17 0 Try.f17 97 (List.reverse PaL17_14) e st
noncomputable def L17_14(A B C D E:Int)(F:Bool)(G:List T)(H I J:Int)(K:Bool)(L:List T)(M:Bool)(N:List T) :Option Res:=WL17_14 VL17_14 A B C D E F G H I J K L M N
abbrev YL27_7 :=Bool→(List T)→Int→Int→Int→Int→Int→Int→Bool→(List T)→Int→Int→Int→Bool→(List T)→Bool→(List T)→Option Res
abbrev YL27_15 :=Bool→(List T)→Bool→(List T)→Int→Int→Int→Int→Int→Bool→(List T)→Bool→(List T)→Int→Int→Int→Bool→(List T)→Option Res
abbrev YJ27_24 :=Bool→(List T)→Bool→(List T)→Int→Int→Int→Int→Int→Bool→(List T)→Bool→(List T)→Int→Int→Int→Bool→(List T)→Int→Int→Int→Int→Int→Option Res
def PaL27_7 :List Stp:=[.blk, .snd, .fst, .snd, .snd, .snd, .snd, .snd]
def PaL27_15 :List Stp:=[.blk, .snd, .fst, .snd, .snd, .snd, .snd, .snd, .snd, .snd]
def PaJ27_24 :List Stp:=[.snd, .snd, .snd, .blk, .fst, .snd, .snd, .lp, .blk, .snd, .fst, .snd, .snd, .snd, .snd, .snd, .snd, .snd]
def Ta27(KL27_7 KL27_15 KJ27_24:Env→St→Option Res) :Tab:=[(PaL27_7,KL27_7),(PaL27_15,KL27_15),(PaJ27_24,KJ27_24)]
def WL27_7(k:Env→St→Option Res)(all4z:Bool)(all4:List T)(n7 A B C D E:Int)(F:Bool)(G:List T)(H I J:Int)(K:Bool)(L:List T)(M:Bool)(N:List T) :Option Res:=k [(1, .ptr 8 0 0),(2, .ptr 9 0 0),(4, .t (.list 1 all4z all4)),(6, .buf 10),(7, .t (.int .i64 n7)),(27, .t (.int .i64 A)),(28, .t (.int .i64 B))] ⟨[(8, .var [.t (.int .i64 C), .t (.int .i64 D), .t (.int .i64 E), .t (.list 5 F G)]),(9, .var [.t (.int .i64 H), .t (.int .i64 I), .t (.int .i64 J), .t (.list 5 K L)]),(10, .arr true 1 M N)],[]⟩
noncomputable def VL27_7 :Env→St→Option Res:=fun e st=>atV Try.prog hint 27 0 Try.f27 89 (List.reverse PaL27_7) e st
noncomputable def L27_7(all4z:Bool)(all4:List T)(n7 A B C D E:Int)(F:Bool)(G:List T)(H I J:Int)(K:Bool)(L:List T)(M:Bool)(N:List T) :Option Res:=WL27_7 VL27_7 all4z all4 n7 A B C D E F G H I J K L M N
def WL27_15(k:Env→St→Option Res)(all4z:Bool)(all4:List T)(A:Bool)(B:List T)(C D E F G:Int)(H:Bool)(I:List T)(J:Bool)(K:List T)(L M N:Int)(O:Bool)(P:List T) :Option Res:=k [(2, .ptr 8 0 0),(4, .t (.list 1 all4z all4)),(6, .buf 9),(9, .ptr 10 0 0),(50, .t (.list 5 A B)),(51, .t (.int .i64 C)),(52, .t (.int .i64 D))] ⟨[(8, .var [.t (.int .i64 E), .t (.int .i64 F), .t (.int .i64 G), .t (.list 5 H I)]),(9, .arr true 1 J K),(10, .var [.t (.int .i64 L), .t (.int .i64 M), .t (.int .i64 N), .buf 11]),(11, .arr true 5 O P)],[]⟩
noncomputable def VL27_15 :Env→St→Option Res:=fun e st=>atV Try.prog hint 27 0 Try.f27 89 (List.reverse PaL27_15) e st
noncomputable def L27_15(all4z:Bool)(all4:List T)(A:Bool)(B:List T)(C D E F G:Int)(H:Bool)(I:List T)(J:Bool)(K:List T)(L M N:Int)(O:Bool)(P:List T) :Option Res:=WL27_15 VL27_15 all4z all4 A B C D E F G H I J K L M N O P
def WJ27_24(k:Env→St→Option Res)(all4z:Bool)(all4:List T)(A:Bool)(B:List T)(C D E F G:Int)(H:Bool)(I:List T)(J:Bool)(K:List T)(L M N:Int)(O:Bool)(P:List T)(Q R S U V:Int) :Option Res:=k [(2, .ptr 8 0 0),(4, .t (.list 1 all4z all4)),(6, .buf 9),(9, .ptr 10 0 0),(11, .ptr 12 0 0),(50, .t (.list 5 A B)),(51, .t (.int .i64 C)),(52, .t (.int .i64 D))] ⟨[(8, .var [.t (.int .i64 E), .t (.int .i64 F), .t (.int .i64 G), .t (.list 5 H I)]),(9, .arr true 1 J K),(10, .var [.t (.int .i64 L), .t (.int .i64 M), .t (.int .i64 N), .buf 11]),(11, .arr true 5 O P),(12, .var [.t (.int .i64 Q), .t (.int .i64 R), .t (.int .i64 S), .t (.int .i64 U), .t (.int .i64 V)])],[]⟩
noncomputable def VJ27_24 :Env→St→Option Res:=fun e st=>atV Try.prog hint 27 0 Try.f27 89 (List.reverse PaJ27_24) e st
noncomputable def J27_24(all4z:Bool)(all4:List T)(A:Bool)(B:List T)(C D E F G:Int)(H:Bool)(I:List T)(J:Bool)(K:List T)(L M N:Int)(O:Bool)(P:List T)(Q R S U V:Int) :Option Res:=WJ27_24 VJ27_24 all4z all4 A B C D E F G H I J K L M N O P Q R S U V
abbrev YL57v1_2 :=Bool→(List T)→Int→Int→Int→Option Res
def PaL57v1_2 :List Stp:=[.blk, .snd, .fst, .snd]
def Ta57v1(KL57v1_2:Env→St→Option Res) :Tab:=[(PaL57v1_2,KL57v1_2)]
def WL57v1_2(k:Env→St→Option Res)(s0z:Bool)(s0:List T)(A B C:Int) :Option Res:=k [(0, .t (.list 1 s0z s0)),(1, .fn 37 [] [.ptr 0 0 0]),(7, .t (.int .i64 A)),(8, .t (.int .i64 B))] ⟨[(0, .var [.t (.int .i64 C)])],[]⟩
noncomputable def VL57v1_2 :Env→St→Option Res:=fun e st=>atV Try.prog hint 57 1 Try.f57 19 (List.reverse PaL57v1_2) e st
noncomputable def L57v1_2(s0z:Bool)(s0:List T)(A B C:Int) :Option Res:=WL57v1_2 VL57v1_2 s0z s0 A B C
abbrev YL34v1_2 :=Bool→(List T)→Int→Int→Int→Int→Int→Bool→(List T)→Bool→(List T)→Bool→(List T)→Bool→(List T)→Option Res
def PaL34v1_2 :List Stp:=[.blk, .snd, .fst, .snd]
def Ta34v1(KL34v1_2:Env→St→Option Res) :Tab:=[(PaL34v1_2,KL34v1_2)]
def WL34v1_2(k:Env→St→Option Res)(A:Bool)(B:List T)(C D E F G:Int)(H:Bool)(I:List T)(J:Bool)(K:List T)(L:Bool)(M:List T)(N:Bool)(O:List T) :Option Res:=k [(0, .ptr 0 0 0),(1, .fn 35 [] []),(4, .buf 8),(11, .t (.list 5 A B)),(12, .t (.int .i64 C)),(13, .t (.int .i64 D))] ⟨[(0, .var [.t (.int .i64 E), .t (.int .i64 F), .t (.int .i64 G), .t (.list 5 H I), .buf 1, .buf 2]),(1, .arr true 2 J K),(2, .arr true 1 L M),(8, .arr true 1 N O)],[]⟩
noncomputable def VL34v1_2 :Env→St→Option Res:=fun e st=>atV Try.prog hint 34 1 Try.f34 37 (List.reverse PaL34v1_2) e st
noncomputable def L34v1_2(A:Bool)(B:List T)(C D E F G:Int)(H:Bool)(I:List T)(J:Bool)(K:List T)(L:Bool)(M:List T)(N:Bool)(O:List T) :Option Res:=WL34v1_2 VL34v1_2 A B C D E F G H I J K L M N O
abbrev YL28_6 :=Bool→(List T)→Bool→(List T)→Int→Int→Bool→(List T)→Option Res
abbrev YL28_10 :=Bool→(List T)→Int→Bool→Bool→(List T)→Int→Int→Bool→(List T)→Int→Int→Bool→(List T)→Option Res
def PaL28_6 :List Stp:=[.blk, .snd, .fst, .snd, .snd, .snd, .snd]
def PaL28_10 :List Stp:=[.blk, .snd, .fst, .snd, .snd, .blk, .fst, .snd, .snd, .lp, .blk, .snd, .fst, .snd, .snd, .snd, .snd]
def Ta28(KL28_6 KL28_10:Env→St→Option Res) :Tab:=[(PaL28_6,KL28_6),(PaL28_10,KL28_10)]
def WL28_6(k:Env→St→Option Res)(all4z:Bool)(all4:List T)(A:Bool)(B:List T)(C D:Int)(E:Bool)(F:List T) :Option Res:=k [(4, .t (.list 1 all4z all4)),(6, .buf 8),(21, .t (.list 5 A B)),(22, .t (.int .i64 C)),(23, .t (.int .i64 D))] ⟨[(8, .arr true 1 E F)],[]⟩
noncomputable def VL28_6 :Env→St→Option Res:=fun e st=>atV Try.prog hint 28 0 Try.f28 56 (List.reverse PaL28_6) e st
noncomputable def L28_6(all4z:Bool)(all4:List T)(A:Bool)(B:List T)(C D:Int)(E:Bool)(F:List T) :Option Res:=WL28_6 VL28_6 all4z all4 A B C D E F
def WL28_10(k:Env→St→Option Res)(all4z:Bool)(all4:List T)(i7:Int)(back9 A:Bool)(B:List T)(C D:Int)(E:Bool)(F:List T)(G H:Int)(I:Bool)(J:List T) :Option Res:=k [(4, .t (.list 1 all4z all4)),(6, .buf 8),(7, .t (.int .i64 i7)),(9, .t (.bool back9)),(21, .t (.list 5 A B)),(22, .t (.int .i64 C)),(23, .t (.int .i64 D)),(30, .t (.list 1 E F)),(31, .t (.int .i64 G)),(32, .t (.int .i64 H))] ⟨[(8, .arr true 1 I J)],[]⟩
noncomputable def VL28_10 :Env→St→Option Res:=fun e st=>atV Try.prog hint 28 0 Try.f28 56 (List.reverse PaL28_10) e st
noncomputable def L28_10(all4z:Bool)(all4:List T)(i7:Int)(back9 A:Bool)(B:List T)(C D:Int)(E:Bool)(F:List T)(G H:Int)(I:Bool)(J:List T) :Option Res:=WL28_10 VL28_10 all4z all4 i7 back9 A B C D E F G H I J
abbrev YL29_4 :=Bool→(List T)→Bool→(List T)→Int→Int→Option Res
def PaL29_4 :List Stp:=[.blk, .snd, .fst, .snd, .snd]
def Ta29(KL29_4:Env→St→Option Res) :Tab:=[(PaL29_4,KL29_4)]
def WL29_4(k:Env→St→Option Res)(A:Bool)(B:List T)(b1z:Bool)(b1:List T)(C D:Int) :Option Res:=k [(0, .t (.list 1 A B)),(1, .t (.list 1 b1z b1)),(12, .t (.int .i64 C)),(13, .t (.int .i64 D))] ⟨[],[]⟩
noncomputable def VL29_4 :Env→St→Option Res:=fun e st=>atV Try.prog hint 29 0 Try.f29 26 (List.reverse PaL29_4) e st
noncomputable def L29_4(A:Bool)(B:List T)(b1z:Bool)(b1:List T)(C D:Int) :Option Res:=WL29_4 VL29_4 A B b1z b1 C D
abbrev YL22_4 :=Bool→(List T)→Bool→(List T)→Int→Int→Option Res
abbrev YL22_9 :=Bool→(List T)→Bool→(List T)→Int→Int→Int→Int→Int→Option Res
def PaL22_4 :List Stp:=[.blk, .snd, .fst, .snd, .snd]
def PaL22_9 :List Stp:=[.blk, .snd, .snd, .snd, .blk, .fst, .snd, .snd, .lp, .blk, .snd, .fst, .snd, .snd]
def Ta22(KL22_4 KL22_9:Env→St→Option Res) :Tab:=[(PaL22_4,KL22_4),(PaL22_9,KL22_9)]
def WL22_4(k:Env→St→Option Res)(A:Bool)(B:List T)(b1z:Bool)(b1:List T)(C D:Int) :Option Res:=k [(0, .t (.list 1 A B)),(1, .t (.list 1 b1z b1)),(13, .t (.int .i64 C)),(14, .t (.int .i64 D))] ⟨[],[]⟩
noncomputable def VL22_4 :Env→St→Option Res:=fun e st=>atV Try.prog hint 22 0 Try.f22 53 (List.reverse PaL22_4) e st
noncomputable def L22_4(A:Bool)(B:List T)(b1z:Bool)(b1:List T)(C D:Int) :Option Res:=WL22_4 VL22_4 A B b1z b1 C D
def WL22_9(k:Env→St→Option Res)(A:Bool)(B:List T)(b1z:Bool)(b1:List T)(i5 C D E F:Int) :Option Res:=k [(0, .t (.list 1 A B)),(1, .t (.list 1 b1z b1)),(5, .t (.int .i64 i5)),(13, .t (.int .i64 C)),(14, .t (.int .i64 D)),(32, .t (.int .i64 E)),(33, .t (.int .i64 F))] ⟨[],[]⟩
noncomputable def VL22_9 :Env→St→Option Res:=fun e st=>atV Try.prog hint 22 0 Try.f22 53 (List.reverse PaL22_9) e st
noncomputable def L22_9(A:Bool)(B:List T)(b1z:Bool)(b1:List T)(i5 C D E F:Int) :Option Res:=WL22_9 VL22_9 A B b1z b1 i5 C D E F
abbrev YL30_7 :=Bool→(List T)→Int→Int→Int→Int→Int→Bool→(List T)→Option Res
def PaL30_7 :List Stp:=[.blk, .snd, .fst, .snd, .snd, .snd, .snd]
def Ta30(KL30_7:Env→St→Option Res) :Tab:=[(PaL30_7,KL30_7)]
def WL30_7(k:Env→St→Option Res)(A:Bool)(B:List T)(C D E F G:Int)(H:Bool)(I:List T) :Option Res:=k [(1, .ptr 8 0 0),(19, .t (.list 5 A B)),(20, .t (.int .i64 C)),(21, .t (.int .i64 D))] ⟨[(8, .var [.t (.int .i64 E), .t (.int .i64 F), .t (.int .i64 G), .t (.list 5 H I)])],[]⟩
noncomputable def VL30_7 :Env→St→Option Res:=fun e st=>atV Try.prog hint 30 0 Try.f30 41 (List.reverse PaL30_7) e st
noncomputable def L30_7(A:Bool)(B:List T)(C D E F G:Int)(H:Bool)(I:List T) :Option Res:=WL30_7 VL30_7 A B C D E F G H I
abbrev YL31_4 :=Int→Int→Int→Int→Int→Bool→(List T)→Int→Int→Int→Bool→(List T)→Option Res
def PaL31_4 :List Stp:=[.blk, .snd, .fst, .snd, .snd]
def Ta31(KL31_4:Env→St→Option Res) :Tab:=[(PaL31_4,KL31_4)]
def WL31_4(k:Env→St→Option Res)(A B C D E:Int)(F:Bool)(G:List T)(H I J:Int)(K:Bool)(L:List T) :Option Res:=k [(2, .ptr 8 0 0),(3, .ptr 9 0 0),(36, .t (.int .i64 A)),(37, .t (.int .i64 B))] ⟨[(8, .var [.t (.int .i64 C), .t (.int .i64 D), .t (.int .i64 E), .t (.list 5 F G)]),(9, .var [.t (.int .i64 H), .t (.int .i64 I), .t (.int .i64 J), .t (.list 5 K L)])],[]⟩
noncomputable def VL31_4 :Env→St→Option Res:=fun e st=>atV Try.prog hint 31 0 Try.f31 52 (List.reverse PaL31_4) e st
noncomputable def L31_4(A B C D E:Int)(F:Bool)(G:List T)(H I J:Int)(K:Bool)(L:List T) :Option Res:=WL31_4 VL31_4 A B C D E F G H I J K L
abbrev YL7_16 :=Bool→Bool→(List T)→Int→Bool→(List T)→Int→Bool→(List T)→Int→Bool→(List T)→Int→Bool→(List T)→Int→Bool→(List T)→Int→Int→Int→Bool→(List T)→Int→Bool→(List T)→Int→Int→Int→Int→Int→Int→Bool→(List T)→Bool→(List T)→Int→Int→Int→Bool→(List T)→Int→Int→Int→Bool→(List T)→Option Res
def PaL7_16 :List Stp:=[.blk, .snd, .fst, .snd, .snd, .snd, .snd, .snd, .snd, .snd, .snd, .snd, .snd, .snd, .snd, .snd, .snd]
def Ta7(KL7_16:Env→St→Option Res) :Tab:=[(PaL7_16,KL7_16)]
def WL7_16(k:Env→St→Option Res)(up3 A:Bool)(B:List T)(e6:Int)(b7z:Bool)(b7:List T)(f8:Int)(x9z:Bool)(x9:List T)(g10:Int)(y11z:Bool)(y11:List T)(h12:Int)(p13z:Bool)(p13:List T)(i14:Int)(q15z:Bool)(q15:List T)(j16 k18 l20:Int)(u21z:Bool)(u21:List T)(C:Int)(v23z:Bool)(v23:List T)(n24 D E F G H:Int)(I:Bool)(J:List T)(K:Bool)(L:List T)(M N O:Int)(P:Bool)(Q:List T)(R S U:Int)(V:Bool)(W:List T) :Option Res:=k [(1, .ptr 8 0 0),(3, .t (.bool up3)),(4, .buf 9),(5, .t (.list 1 A B)),(6, .t (.int .i64 e6)),(7, .t (.list 1 b7z b7)),(8, .t (.int .i64 f8)),(9, .t (.list 1 x9z x9)),(10, .t (.int .i64 g10)),(11, .t (.list 1 y11z y11)),(12, .t (.int .i64 h12)),(13, .t (.list 1 p13z p13)),(14, .t (.int .i64 i14)),(15, .t (.list 1 q15z q15)),(16, .t (.int .i64 j16)),(17, .ptr 10 0 0),(18, .t (.int .i64 k18)),(19, .ptr 12 0 0),(20, .t (.int .i64 l20)),(21, .t (.list 1 u21z u21)),(22, .t (.int .i64 C)),(23, .t (.list 1 v23z v23)),(24, .t (.int .i64 n24)),(86, .t (.int .i64 D)),(87, .t (.int .i64 E))] ⟨[(8, .var [.t (.int .i64 F), .t (.int .i64 G), .t (.int .i64 H), .t (.list 5 I J)]),(9, .arr true 5 K L),(10, .var [.t (.int .i64 M), .t (.int .i64 N), .t (.int .i64 O), .buf 11]),(11, .arr true 5 P Q),(12, .var [.t (.int .i64 R), .t (.int .i64 S), .t (.int .i64 U), .t (.list 5 V W)])],[]⟩
noncomputable def VL7_16 :Env→St→Option Res:=fun e st=>atV Try.prog hint 7 0 Try.f7 192 (List.reverse PaL7_16) e st
noncomputable def L7_16(up3 A:Bool)(B:List T)(e6:Int)(b7z:Bool)(b7:List T)(f8:Int)(x9z:Bool)(x9:List T)(g10:Int)(y11z:Bool)(y11:List T)(h12:Int)(p13z:Bool)(p13:List T)(i14:Int)(q15z:Bool)(q15:List T)(j16 k18 l20:Int)(u21z:Bool)(u21:List T)(C:Int)(v23z:Bool)(v23:List T)(n24 D E F G H:Int)(I:Bool)(J:List T)(K:Bool)(L:List T)(M N O:Int)(P:Bool)(Q:List T)(R S U:Int)(V:Bool)(W:List T) :Option Res:=WL7_16 VL7_16 up3 A B e6 b7z b7 f8 x9z x9 g10 y11z y11 h12 p13z p13 i14 q15z q15 j16 k18 l20 u21z u21 C v23z v23 n24 D E F G H I J K L M N O P Q R S U V W
abbrev Z0(v0:Int) :Option Res:=some ((.tup [.t (.list 1 false []), .t (.int .i64 v0)]),⟨[],[]⟩)
abbrev Z1(v0:Bool)(v1:List T)(v2:Bool) :St:=⟨[(0, .var [.t (.list 3 v0 v1), .t (.bool v2)])],[]⟩
abbrev Z2(v0 v1 v2:Int)(v3:Bool)(v4:List T) :St:=⟨[(0, .var [.t (.int .i64 v0), .t (.int .i64 v1), .t (.int .i64 v2), .t (.list 5 v3 v4)])],[500]⟩
abbrev Z3(v0 v1 v2:Int)(v3:Bool)(v4:List T) :St:=⟨[(0, .var [.t (.int .i64 v0), .t (.int .i64 v1), .t (.int .i64 v2), .t (.list 5 v3 v4)])],[]⟩
abbrev Z4(v0 v1 v2:Int)(v3:Bool)(v4:List T)(v5:Bool)(v6:List T)(v7:Bool)(v8:List T)(v9:Int) :St:=⟨[(0, .var [.ptr 1 0 0]),(1, .var [.t (.int .i64 v0), .t (.int .i64 v1), .t (.int .i64 v2), .t (.list 5 v3 v4), .buf 2, .buf 3]),(2, .arr true 2 v5 v6),(3, .arr true 1 v7 v8),(4, .var [.t (.int .i64 v9)])],[500,501,502,503,504]⟩
abbrev Z5(v0 v1 v2:Int)(v3:Bool)(v4:List T)(v5:Bool)(v6:List T)(v7:Bool)(v8:List T)(v9:Int) :St:=⟨[(0, .var [.ptr 1 0 0]),(1, .var [.t (.int .i64 v0), .t (.int .i64 v1), .t (.int .i64 v2), .t (.list 5 v3 v4), .buf 2, .buf 3]),(2, .arr true 2 v5 v6),(3, .arr true 1 v7 v8),(4, .var [.t (.int .i64 v9)])],[]⟩
abbrev Z6(v0 v1 v2:Int)(v3:Bool)(v4:List T)(v5:Bool)(v6:List T)(v7:Bool)(v8:List T) :St:=⟨[(0, .var [.t (.int .i64 v0), .t (.int .i64 v1), .t (.int .i64 v2), .t (.list 5 v3 v4), .buf 1, .buf 2]),(1, .arr true 2 v5 v6),(2, .arr true 1 v7 v8)],[500,501,502]⟩
noncomputable def R66(A:ByteArray)(B:Int) :Option Res:=callK (vr 79 0 [.t (.str A), .t (.int .u8 B)] ⟨[],[]⟩) fun a b=>asT a fun c=>asI .i64 c fun a=>endB b <| some ((.t (.int .i64 a)),⟨[],[]⟩)
theorem eq66g(A:ByteArray)(B:Int) :gE 66 0 8 Try.f66 [] [.t (.str A), .t (.int .u8 B)] ⟨[],[]⟩=R66 A B:=by kernel_rfl
theorem eq66(A:ByteArray)(B:Int) :vr 66 0 [.t (.str A), .t (.int .u8 B)] ⟨[],[]⟩=R66 A B:=
 Eq.trans (call_eq Try.prog hint (fn:=Try.f66) (nt:=8) (T:=[]) [] rfl _ _ rfl rfl rfl rfl rfl) (eq66g A B)
noncomputable def R65(A:Int) :Option Res:=
(bif (decide (97≤(bitsI .or .u8 A 32))) then
(bif (decide ((bitsI .or .u8 A 32)≤122)) then
 some ((.t (.int .i64 1)),⟨[],[]⟩)
else
(bif (decide (48≤A)) then
(bif (decide (A≤57)) then
 some ((.t (.int .i64 2)),⟨[],[]⟩)
else
 callK (vr 66 0 [.t (.str ⟨#[43,45,42,40,41,91,93,44,61,58]⟩), .t (.int .u8 A)] ⟨[],[]⟩) fun a b=>asT a fun c=>asI .i64 c fun a=>endB b <|
(bif (decide (0≤a)) then
 some ((.t (.int .i64 3)),⟨[],[]⟩)
else
(bif (decide (A=32)) then
 some ((.t (.int .i64 4)),⟨[],[]⟩)
else
(bif (decide (A=9)) then
 some ((.t (.int .i64 4)),⟨[],[]⟩)
else
(bif (decide (A=10)) then
 some ((.t (.int .i64 5)),⟨[],[]⟩)
else
(bif (decide (A=35)) then
 some ((.t (.int .i64 6)),⟨[],[]⟩)
else
 some ((.t (.int .i64 0)),⟨[],[]⟩)))))))
else
 callK (vr 66 0 [.t (.str ⟨#[43,45,42,40,41,91,93,44,61,58]⟩), .t (.int .u8 A)] ⟨[],[]⟩) fun a b=>asT a fun c=>asI .i64 c fun a=>endB b <|
(bif (decide (0≤a)) then
 some ((.t (.int .i64 3)),⟨[],[]⟩)
else
(bif (decide (A=32)) then
 some ((.t (.int .i64 4)),⟨[],[]⟩)
else
(bif (decide (A=9)) then
 some ((.t (.int .i64 4)),⟨[],[]⟩)
else
(bif (decide (A=10)) then
 some ((.t (.int .i64 5)),⟨[],[]⟩)
else
(bif (decide (A=35)) then
 some ((.t (.int .i64 6)),⟨[],[]⟩)
else
 some ((.t (.int .i64 0)),⟨[],[]⟩))))))))
else
(bif (decide (48≤A)) then
(bif (decide (A≤57)) then
 some ((.t (.int .i64 2)),⟨[],[]⟩)
else
 callK (vr 66 0 [.t (.str ⟨#[43,45,42,40,41,91,93,44,61,58]⟩), .t (.int .u8 A)] ⟨[],[]⟩) fun a b=>asT a fun c=>asI .i64 c fun a=>endB b <|
(bif (decide (0≤a)) then
 some ((.t (.int .i64 3)),⟨[],[]⟩)
else
(bif (decide (A=32)) then
 some ((.t (.int .i64 4)),⟨[],[]⟩)
else
(bif (decide (A=9)) then
 some ((.t (.int .i64 4)),⟨[],[]⟩)
else
(bif (decide (A=10)) then
 some ((.t (.int .i64 5)),⟨[],[]⟩)
else
(bif (decide (A=35)) then
 some ((.t (.int .i64 6)),⟨[],[]⟩)
else
 some ((.t (.int .i64 0)),⟨[],[]⟩)))))))
else
 callK (vr 66 0 [.t (.str ⟨#[43,45,42,40,41,91,93,44,61,58]⟩), .t (.int .u8 A)] ⟨[],[]⟩) fun a b=>asT a fun c=>asI .i64 c fun a=>endB b <|
(bif (decide (0≤a)) then
 some ((.t (.int .i64 3)),⟨[],[]⟩)
else
(bif (decide (A=32)) then
 some ((.t (.int .i64 4)),⟨[],[]⟩)
else
(bif (decide (A=9)) then
 some ((.t (.int .i64 4)),⟨[],[]⟩)
else
(bif (decide (A=10)) then
 some ((.t (.int .i64 5)),⟨[],[]⟩)
else
(bif (decide (A=35)) then
 some ((.t (.int .i64 6)),⟨[],[]⟩)
else
 some ((.t (.int .i64 0)),⟨[],[]⟩))))))))
theorem eq65g(A:Int) :gE 65 0 36 Try.f65 [] [.t (.int .u8 A)] ⟨[],[]⟩=R65 A:=by kernel_rfl
theorem eq65(A:Int) :vr 65 0 [.t (.int .u8 A)] ⟨[],[]⟩=R65 A:=
 Eq.trans (call_eq Try.prog hint (fn:=Try.f65) (nt:=36) (T:=[]) [] rfl _ _ rfl rfl rfl rfl rfl) (eq65g A)
noncomputable def R67(L67_2:YL67_2)(A:ByteArray) :Option Res:=L67_2 (A) (0)
theorem eq67g(KL67_2:Env→St→Option Res)(A:ByteArray) :gE 67 0 25 Try.f67 (Ta67 KL67_2) [.t (.str A)] ⟨[],[]⟩=R67 (WL67_2 KL67_2) A:=by kernel_rfl
theorem eq67(A:ByteArray) :vr 67 0 [.t (.str A)] ⟨[],[]⟩=R67 L67_2 A:=
 Eq.trans (call_eq Try.prog hint (fn:=Try.f67) (nt:=25) (T:=(Ta67 VL67_2)) [PaL67_2] rfl _ _ rfl rfl rfl rfl rfl) (eq67g VL67_2 A)
noncomputable def RL67_2(L67_2:YL67_2)(s0:ByteArray)(n3:Int) :Option Res:=
(bif (decide (n3<(s0.size:Int))) then
 needC (decide (0≤n3) &&decide (n3<(s0.size:Int))) fun _=>callK (vr 65 0 [.t (.int .u8 (((s0:ByteArray)[(n3).toNat]!).toNat:Int))] ⟨[],[]⟩) fun a b=>asT a fun c=>asI .i64 c fun a=>endB b <|
(bif (decide (a=1)) then
 L67_2 (s0) ((IntKind.i64.wrap (n3+1)))
else
 needC (decide (0≤n3) &&decide (n3<(s0.size:Int))) fun _=>callK (vr 65 0 [.t (.int .u8 (((s0:ByteArray)[(n3).toNat]!).toNat:Int))] ⟨[],[]⟩) fun a b=>asT a fun c=>asI .i64 c fun a=>endB b <|
(bif (decide (a=2)) then
 L67_2 (s0) ((IntKind.i64.wrap (n3+1)))
else
 some ((.t (.int .i64 n3)),⟨[],[]⟩)))
else
 some ((.t (.int .i64 n3)),⟨[],[]⟩))
theorem L67_2g(KL67_2:Env→St→Option Res)(s0:ByteArray)(n3:Int) :WL67_2 (fun e st=>gP 67 0 25 Try.f67 (Ta67 KL67_2) (.lp::PaL67_2) e st) s0 n3=RL67_2 (WL67_2 KL67_2) s0 n3:=by kernel_rfl
theorem L67_2_eq(s0:ByteArray)(n3:Int) :L67_2 s0 n3=RL67_2 L67_2 s0 n3:=
 (congrArg (fun k=>WL67_2 k s0 n3) (funext fun e=>funext fun st=>round_eq Try.prog hint (b:=(nav (List.reverse (.lp::PaL67_2)) (bodyOf Try.f67))) (fn:=Try.f67) (nt:=25) (T:=(Ta67 VL67_2)) [PaL67_2] rfl PaL67_2 e st rfl rfl rfl)).trans (L67_2g VL67_2 s0 n3)
noncomputable def R80(A:ByteArray) :Option Res:=
(bif (!decide ((A:ByteArray)=⟨#[]⟩)) then
(bif (decide ((A.size:Int)≤16)) then
 needC (decide (0≤0) &&decide ((0:Int)<(A.size:Int))) fun _=>callK (vr 65 0 [.t (.int .u8 (((A:ByteArray)[((0:Int)).toNat]!).toNat:Int))] ⟨[],[]⟩) fun a b=>asT a fun c=>asI .i64 c fun a=>endB b <|
(bif (decide (a=1)) then
 callK (vr 67 0 [.t (.str A)] ⟨[],[]⟩) fun a b=>asT a fun c=>asI .i64 c fun a=>endB b <| some ((.t (.bool (decide (a=(A.size:Int))))),⟨[],[]⟩)
else
 some ((.t (.bool false)),⟨[],[]⟩))
else
 some ((.t (.bool false)),⟨[],[]⟩))
else
 some ((.t (.bool false)),⟨[],[]⟩))
theorem eq80g(A:ByteArray) :gE 80 0 23 Try.f80 [] [.t (.str A)] ⟨[],[]⟩=R80 A:=by kernel_rfl
theorem eq80(A:ByteArray) :vr 80 0 [.t (.str A)] ⟨[],[]⟩=R80 A:=
 Eq.trans (call_eq Try.prog hint (fn:=Try.f80) (nt:=23) (T:=[]) [] rfl _ _ rfl rfl rfl rfl rfl) (eq80g A)
noncomputable def R81(L81_4:YL81_4)(A:ByteArray) :Option Res:=
(bif (decide ((A:ByteArray)=⟨#[]⟩)) then
 some ((.tup [.t (.int .i64 0), .t (.bool false)]),⟨[],[]⟩)
else
(bif (decide (18<(A.size:Int))) then
 some ((.tup [.t (.int .i64 0), .t (.bool false)]),⟨[],[]⟩)
else
(bif (decide (1<(A.size:Int))) then
 needC (decide (0≤0) &&decide ((0:Int)<(A.size:Int))) fun _=>
(bif (decide ((((A:ByteArray)[((0:Int)).toNat]!).toNat:Int)=48)) then
 some ((.tup [.t (.int .i64 0), .t (.bool false)]),⟨[],[]⟩)
else
 L81_4 (A) (0) ((A.size:Int)) (0))
else
 L81_4 (A) (0) ((A.size:Int)) (0))))
theorem eq81g(KL81_4:Env→St→Option Res)(A:ByteArray) :gE 81 0 42 Try.f81 (Ta81 KL81_4) [.t (.str A)] ⟨[],[]⟩=R81 (WL81_4 KL81_4) A:=by kernel_rfl
theorem eq81(A:ByteArray) :vr 81 0 [.t (.str A)] ⟨[],[]⟩=R81 L81_4 A:=
 Eq.trans (call_eq Try.prog hint (fn:=Try.f81) (nt:=42) (T:=(Ta81 VL81_4)) [PaL81_4] rfl _ _ rfl rfl rfl rfl rfl) (eq81g VL81_4 A)
noncomputable def RL81_4(L81_4:YL81_4)(s0:ByteArray)(n2 A B:Int) :Option Res:=
(bif (decide (B<A)) then
 needC (decide (0≤B) &&decide (B<(s0.size:Int))) fun _=>callK (vr 65 0 [.t (.int .u8 (((s0:ByteArray)[(B).toNat]!).toNat:Int))] ⟨[],[]⟩) fun a b=>asT a fun c=>asI .i64 c fun a=>endB b <|
(bif (!decide (a=2)) then
 some ((.tup [.t (.int .i64 0), .t (.bool false)]),⟨[],[]⟩)
else
 needC (decide (0≤B) &&decide (B<(s0.size:Int))) fun _=>L81_4 (s0) ((IntKind.i64.wrap ((IntKind.i64.wrap ((10:Int)*n2))+(IntKind.i64.wrap (IntKind.u8.wrap ((((s0:ByteArray)[(B).toNat]!).toNat:Int) - 48)))))) (A) ((IntKind.i64.wrap (B+1))))
else
 some ((.tup [.t (.int .i64 n2), .t (.bool true)]),⟨[],[]⟩))
theorem L81_4g(KL81_4:Env→St→Option Res)(s0:ByteArray)(n2 A B:Int) :WL81_4 (fun e st=>gP 81 0 42 Try.f81 (Ta81 KL81_4) (.lp::PaL81_4) e st) s0 n2 A B=RL81_4 (WL81_4 KL81_4) s0 n2 A B:=by kernel_rfl
theorem L81_4_eq(s0:ByteArray)(n2 A B:Int) :L81_4 s0 n2 A B=RL81_4 L81_4 s0 n2 A B:=
 (congrArg (fun k=>WL81_4 k s0 n2 A B) (funext fun e=>funext fun st=>round_eq Try.prog hint (b:=(nav (List.reverse (.lp::PaL81_4)) (bodyOf Try.f81))) (fn:=Try.f81) (nt:=42) (T:=(Ta81 VL81_4)) [PaL81_4] rfl PaL81_4 e st rfl rfl rfl)).trans (L81_4g VL81_4 s0 n2 A B)
noncomputable def R68(A:ByteArray) :Option Res:=callK (vr 80 0 [.t (.str A)] ⟨[],[]⟩) fun a b=>asT a fun c=>asB c fun a=>endB b <|
(bif a then
 some ((.tup [.t (.agg [.int .i64 1, .str A, .int .i64 0]), .t (.bool true)]),⟨[],[]⟩)
else
(bif (decide ((A.size:Int)=1)) then
 needC (decide (0≤0) &&decide ((0:Int)<(A.size:Int))) fun _=>callK (vr 65 0 [.t (.int .u8 (((A:ByteArray)[((0:Int)).toNat]!).toNat:Int))] ⟨[],[]⟩) fun a b=>asT a fun c=>asI .i64 c fun a=>endB b <|
(bif (decide (a=3)) then
 some ((.tup [.t (.agg [.int .i64 3, .str A, .int .i64 0]), .t (.bool true)]),⟨[],[]⟩)
else
 callK (vr 81 0 [.t (.str A)] ⟨[],[]⟩) fun a b=>asTup a fun c=>consV c fun a d=>asT a fun c=>asI .i64 c fun a=>consV d fun c f=>asT c fun d=>asB d fun c=>endV f <| endB b <| some ((.tup [.t (.agg [.int .i64 2, .str A, .int .i64 a]), .t (.bool c)]),⟨[],[]⟩))
else
 callK (vr 81 0 [.t (.str A)] ⟨[],[]⟩) fun a b=>asTup a fun c=>consV c fun a d=>asT a fun c=>asI .i64 c fun a=>consV d fun c f=>asT c fun d=>asB d fun c=>endV f <| endB b <| some ((.tup [.t (.agg [.int .i64 2, .str A, .int .i64 a]), .t (.bool c)]),⟨[],[]⟩)))
theorem eq68g(A:ByteArray) :gE 68 0 31 Try.f68 [] [.t (.str A)] ⟨[],[]⟩=R68 A:=by kernel_rfl
theorem eq68(A:ByteArray) :vr 68 0 [.t (.str A)] ⟨[],[]⟩=R68 A:=
 Eq.trans (call_eq Try.prog hint (fn:=Try.f68) (nt:=31) (T:=[]) [] rfl _ _ rfl rfl rfl rfl rfl) (eq68g A)
noncomputable def R52(L52_6:YL52_6)(J52_28:YJ52_28)(J52_21:YJ52_21)(J52_26:YJ52_26)(A:ByteArray) :Option Res:=
(bif (decide (65536<(A.size:Int))) then
 some ((.tup [.t (.list 3 false []), .t (.int .i64 0), .t (.int .i64 2)]),⟨[],[]⟩)
else
 L52_6 (A) (false) (0) (false) ([]))
theorem eq52g(KL52_6 KJ52_28 KJ52_21 KJ52_26:Env→St→Option Res)(A:ByteArray) :gE 52 0 82 Try.f52 (Ta52 KL52_6 KJ52_28 KJ52_21 KJ52_26) [.t (.str A)] ⟨[],[]⟩=R52 (WL52_6 KL52_6) (WJ52_28 KJ52_28) (WJ52_21 KJ52_21) (WJ52_26 KJ52_26) A:=by kernel_rfl
theorem eq52(A:ByteArray) :vr 52 0 [.t (.str A)] ⟨[],[]⟩=R52 L52_6 J52_28 J52_21 J52_26 A:=
 Eq.trans (call_eq Try.prog hint (fn:=Try.f52) (nt:=82) (T:=(Ta52 VL52_6 VJ52_28 VJ52_21 VJ52_26)) [PaL52_6,PaJ52_28,PaJ52_21,PaJ52_26] rfl _ _ rfl rfl rfl rfl rfl) (eq52g VL52_6 VJ52_28 VJ52_21 VJ52_26 A)
noncomputable def RL52_6(L52_6:YL52_6)(J52_28:YJ52_28)(J52_21:YJ52_21)(J52_26:YJ52_26)(s0:ByteArray)(ends6:Bool)(at7:Int)(A:Bool)(B:List T) :Option Res:=
(bif (decide (at7<(s0.size:Int))) then
 needC (decide (0≤at7) &&decide (at7<(s0.size:Int))) fun _=>callK (vr 65 0 [.t (.int .u8 (((s0:ByteArray)[(at7).toNat]!).toNat:Int))] ⟨[],[]⟩) fun a b=>asT a fun c=>asI .i64 c fun a=>endB b <|
(bif (decide (a=5)) then
 L52_6 (s0) ((decide (0<(B.length:Int)))) ((IntKind.i64.wrap (at7+1))) (A) (B)
else
(bif (decide (a=4)) then
 L52_6 (s0) (ends6) ((IntKind.i64.wrap (at7+1))) (A) (B)
else
(bif (decide (a=6)) then
 subS s0 (some at7) none fun b=>callK (vr 66 0 [.t (.str b), .t (.int .u8 10)] ⟨[],[]⟩) fun c d=>asT c fun b=>asI .i64 b fun c=>endB d <|
(bif (decide (c<0)) then
 J52_28 (s0) (A) (B)
else
 L52_6 (s0) (ends6) ((IntKind.i64.wrap (at7+c))) (A) (B))
else
(bif (decide (a=1)) then
 subS s0 (some at7) none fun b=>callK (vr 67 0 [.t (.str b)] ⟨[],[]⟩) fun c d=>asT c fun b=>asI .i64 b fun c=>endB d <| J52_21 (s0) (ends6) (at7) (c) (A) (B)
else
(bif (decide (a=2)) then
 subS s0 (some at7) none fun a=>callK (vr 67 0 [.t (.str a)] ⟨[],[]⟩) fun b c=>asT b fun a=>asI .i64 a fun b=>endB c <| J52_21 (s0) (ends6) (at7) (b) (A) (B)
else
 J52_21 (s0) (ends6) (at7) (1) (A) (B))))))
else
 J52_28 (s0) (A) (B))
theorem L52_6g(KL52_6 KJ52_28 KJ52_21 KJ52_26:Env→St→Option Res)(s0:ByteArray)(ends6:Bool)(at7:Int)(A:Bool)(B:List T) :WL52_6 (fun e st=>gP 52 0 82 Try.f52 (Ta52 KL52_6 KJ52_28 KJ52_21 KJ52_26) (.lp::PaL52_6) e st) s0 ends6 at7 A B=RL52_6 (WL52_6 KL52_6) (WJ52_28 KJ52_28) (WJ52_21 KJ52_21) (WJ52_26 KJ52_26) s0 ends6 at7 A B:=by kernel_rfl
theorem L52_6_eq(s0:ByteArray)(ends6:Bool)(at7:Int)(A:Bool)(B:List T) :L52_6 s0 ends6 at7 A B=RL52_6 L52_6 J52_28 J52_21 J52_26 s0 ends6 at7 A B:=
 (congrArg (fun k=>WL52_6 k s0 ends6 at7 A B) (funext fun e=>funext fun st=>round_eq Try.prog hint (b:=(nav (List.reverse (.lp::PaL52_6)) (bodyOf Try.f52))) (fn:=Try.f52) (nt:=82) (T:=(Ta52 VL52_6 VJ52_28 VJ52_21 VJ52_26)) [PaL52_6,PaJ52_28,PaJ52_21,PaJ52_26] rfl PaL52_6 e st rfl rfl rfl)).trans (L52_6g VL52_6 VJ52_28 VJ52_21 VJ52_26 s0 ends6 at7 A B)
noncomputable def RJ52_28(L52_6:YL52_6)(J52_28:YJ52_28)(J52_21:YJ52_21)(J52_26:YJ52_26)(s0:ByteArray)(A:Bool)(B:List T) :Option Res:=
(bif (decide (4096<(B.length:Int))) then
 some ((.tup [.t (.list 3 false []), .t (.int .i64 0), .t (.int .i64 2)]),⟨[],[]⟩)
else
 some ((.tup [.t (.list 3 A B), .t (.int .i64 (s0.size:Int)), .t (.int .i64 0)]),⟨[],[]⟩))
theorem J52_28g(KL52_6 KJ52_28 KJ52_21 KJ52_26:Env→St→Option Res)(s0:ByteArray)(A:Bool)(B:List T) :WJ52_28 (fun e st=>gP 52 0 82 Try.f52 (Ta52 KL52_6 KJ52_28 KJ52_21 KJ52_26) PaJ52_28 e st) s0 A B=RJ52_28 (WL52_6 KL52_6) (WJ52_28 KJ52_28) (WJ52_21 KJ52_21) (WJ52_26 KJ52_26) s0 A B:=by kernel_rfl
theorem J52_28_eq(s0:ByteArray)(A:Bool)(B:List T) :J52_28 s0 A B=RJ52_28 L52_6 J52_28 J52_21 J52_26 s0 A B:=
 (congrArg (fun k=>WJ52_28 k s0 A B) (funext fun e=>funext fun st=>join_eq Try.prog hint (fn:=Try.f52) (nt:=82) (T:=(Ta52 VL52_6 VJ52_28 VJ52_21 VJ52_26)) [PaL52_6,PaJ52_28,PaJ52_21,PaJ52_26] rfl PaJ52_28 e st rfl)).trans (J52_28g VL52_6 VJ52_28 VJ52_21 VJ52_26 s0 A B)
noncomputable def RJ52_21(L52_6:YL52_6)(J52_28:YJ52_28)(J52_21:YJ52_21)(J52_26:YJ52_26)(s0:ByteArray)(ends6:Bool)(at7 n8:Int)(A:Bool)(B:List T) :Option Res:=subS s0 (some at7) (some (IntKind.i64.wrap (at7+n8))) fun a=>callK (vr 68 0 [.t (.str a)] ⟨[],[]⟩) fun b c=>asTup b fun a=>consV a fun b d=>asT b fun a=>asA a fun b=>consT b fun a f=>asI .i64 a fun b=>consT f fun a g=>asS a fun f=>consT g fun a h=>asI .i64 a fun g=>endT h <| consV d fun a h=>asT a fun d=>asB d fun a=>endV h <| endB c <|
(bif (!a) then
 some ((.tup [.t (.list 3 false []), .t (.int .i64 at7), .t (.int .i64 6)]),⟨[],[]⟩)
else
(bif ends6 then
 needC (decide ((B.length+1)*(32+1)≤70368744177664) &&decide (32≤1048576)) fun _=>J52_26 (s0) (at7) (n8) ((A || true)) ((B++([.agg [.int .i64 4, .str ByteArray.empty, .int .i64 0]]:List T))) (b) (f) (g)
else
 J52_26 (s0) (at7) (n8) (A) (B) (b) (f) (g)))
theorem J52_21g(KL52_6 KJ52_28 KJ52_21 KJ52_26:Env→St→Option Res)(s0:ByteArray)(ends6:Bool)(at7 n8:Int)(A:Bool)(B:List T) :WJ52_21 (fun e st=>gP 52 0 82 Try.f52 (Ta52 KL52_6 KJ52_28 KJ52_21 KJ52_26) PaJ52_21 e st) s0 ends6 at7 n8 A B=RJ52_21 (WL52_6 KL52_6) (WJ52_28 KJ52_28) (WJ52_21 KJ52_21) (WJ52_26 KJ52_26) s0 ends6 at7 n8 A B:=by kernel_rfl
theorem J52_21_eq(s0:ByteArray)(ends6:Bool)(at7 n8:Int)(A:Bool)(B:List T) :J52_21 s0 ends6 at7 n8 A B=RJ52_21 L52_6 J52_28 J52_21 J52_26 s0 ends6 at7 n8 A B:=
 (congrArg (fun k=>WJ52_21 k s0 ends6 at7 n8 A B) (funext fun e=>funext fun st=>join_eq Try.prog hint (fn:=Try.f52) (nt:=82) (T:=(Ta52 VL52_6 VJ52_28 VJ52_21 VJ52_26)) [PaL52_6,PaJ52_28,PaJ52_21,PaJ52_26] rfl PaJ52_21 e st rfl)).trans (J52_21g VL52_6 VJ52_28 VJ52_21 VJ52_26 s0 ends6 at7 n8 A B)
noncomputable def RJ52_26(L52_6:YL52_6)(J52_28:YJ52_28)(J52_21:YJ52_21)(J52_26:YJ52_26)(s0:ByteArray)(at7 n8:Int)(A:Bool)(B:List T)(C:Int)(D:ByteArray)(E:Int) :Option Res:=needC (decide ((B.length+1)*(32+1)≤70368744177664) &&decide (32≤1048576)) fun _=>L52_6 (s0) (false) ((IntKind.i64.wrap (at7+n8))) ((A || true)) ((B++([.agg [.int .i64 C, .str D, .int .i64 E]]:List T)))
theorem J52_26g(KL52_6 KJ52_28 KJ52_21 KJ52_26:Env→St→Option Res)(s0:ByteArray)(at7 n8:Int)(A:Bool)(B:List T)(C:Int)(D:ByteArray)(E:Int) :WJ52_26 (fun e st=>gP 52 0 82 Try.f52 (Ta52 KL52_6 KJ52_28 KJ52_21 KJ52_26) PaJ52_26 e st) s0 at7 n8 A B C D E=RJ52_26 (WL52_6 KL52_6) (WJ52_28 KJ52_28) (WJ52_21 KJ52_21) (WJ52_26 KJ52_26) s0 at7 n8 A B C D E:=by kernel_rfl
theorem J52_26_eq(s0:ByteArray)(at7 n8:Int)(A:Bool)(B:List T)(C:Int)(D:ByteArray)(E:Int) :J52_26 s0 at7 n8 A B C D E=RJ52_26 L52_6 J52_28 J52_21 J52_26 s0 at7 n8 A B C D E:=
 (congrArg (fun k=>WJ52_26 k s0 at7 n8 A B C D E) (funext fun e=>funext fun st=>join_eq Try.prog hint (fn:=Try.f52) (nt:=82) (T:=(Ta52 VL52_6 VJ52_28 VJ52_21 VJ52_26)) [PaL52_6,PaJ52_28,PaJ52_21,PaJ52_26] rfl PaJ52_26 e st rfl)).trans (J52_26g VL52_6 VJ52_28 VJ52_21 VJ52_26 s0 at7 n8 A B C D E)
noncomputable def R70(A:Int)(B:ByteArray)(C:Int) :Option Res:=some ((.t (.bool (decide (A=4)))),⟨[],[]⟩)
theorem eq70g(A:Int)(B:ByteArray)(C:Int) :gE 70 0 6 Try.f70 [] [.t (.agg [.int .i64 A, .str B, .int .i64 C])] ⟨[],[]⟩=R70 A B C:=by kernel_rfl
theorem eq70(A:Int)(B:ByteArray)(C:Int) :vr 70 0 [.t (.agg [.int .i64 A, .str B, .int .i64 C])] ⟨[],[]⟩=R70 A B C:=
 Eq.trans (call_eq Try.prog hint (fn:=Try.f70) (nt:=6) (T:=[]) [] rfl _ _ rfl rfl rfl rfl rfl) (eq70g A B C)
noncomputable def R69(L69_2:YL69_2)(A:Bool)(B:List T) :Option Res:=L69_2 (A) (B) ((B.length:Int)) (0)
theorem eq69g(KL69_2:Env→St→Option Res)(A:Bool)(B:List T) :gE 69 0 19 Try.f69 (Ta69 KL69_2) [.t (.list 3 A B), .fn 70 [] []] ⟨[],[]⟩=R69 (WL69_2 KL69_2) A B:=by kernel_rfl
theorem eq69(A:Bool)(B:List T) :vr 69 0 [.t (.list 3 A B), .fn 70 [] []] ⟨[],[]⟩=R69 L69_2 A B:=
 Eq.trans (call_eq Try.prog hint (fn:=Try.f69) (nt:=19) (T:=(Ta69 VL69_2)) [PaL69_2] rfl _ _ rfl rfl rfl rfl rfl) (eq69g VL69_2 A B)
noncomputable def RL69_2(L69_2:YL69_2)(s0z:Bool)(s0:List T)(A B:Int) :Option Res:=
(bif (decide (B<A)) then
 needC (decide (0≤B)) fun _=>getT s0 (B).toNat fun a=>asA a fun b=>consT b fun a c=>asI .i64 a fun b=>consT c fun a d=>asS a fun c=>consT d fun a f=>asI .i64 a fun d=>endT f <| callK (vr 70 0 [.t (.agg [.int .i64 b, .str c, .int .i64 d])] ⟨[],[]⟩) fun a f=>asT a fun b=>asB b fun a=>endB f <|
(bif a then
 some ((.t (.int .i64 B)),⟨[],[]⟩)
else
 L69_2 (s0z) (s0) (A) ((IntKind.i64.wrap (B+1))))
else
 some ((.t (.int .i64 (-1))),⟨[],[]⟩))
theorem L69_2g(KL69_2:Env→St→Option Res)(s0z:Bool)(s0:List T)(A B:Int) :WL69_2 (fun e st=>gP 69 0 19 Try.f69 (Ta69 KL69_2) (.lp::PaL69_2) e st) s0z s0 A B=RL69_2 (WL69_2 KL69_2) s0z s0 A B:=by kernel_rfl
theorem L69_2_eq(s0z:Bool)(s0:List T)(A B:Int) :L69_2 s0z s0 A B=RL69_2 L69_2 s0z s0 A B:=
 (congrArg (fun k=>WL69_2 k s0z s0 A B) (funext fun e=>funext fun st=>round_eq Try.prog hint (b:=(nav (List.reverse (.lp::PaL69_2)) (bodyOf Try.f69))) (fn:=Try.f69) (nt:=19) (T:=(Ta69 VL69_2)) [PaL69_2] rfl PaL69_2 e st rfl rfl rfl)).trans (L69_2g VL69_2 s0z s0 A B)
noncomputable def R71(A:Bool)(B:List T) :Option Res:=
(bif (!A) then
 some ((.t (.list 3 false [])),⟨[],[]⟩)
else
 needC (decide ((0+B.length)*(32+1)≤70368744177664) &&decide (32≤1048576)) fun _=>some ((.t (.list 3 true (([]:List T)++B))),⟨[],[]⟩))
theorem eq71g(A:Bool)(B:List T) :gE 71 0 8 Try.f71 [] [.t (.list 3 A B)] ⟨[],[]⟩=R71 A B:=by kernel_rfl
theorem eq71(A:Bool)(B:List T) :vr 71 0 [.t (.list 3 A B)] ⟨[],[]⟩=R71 A B:=
 Eq.trans (call_eq Try.prog hint (fn:=Try.f71) (nt:=8) (T:=[]) [] rfl _ _ rfl rfl rfl rfl rfl) (eq71g A B)
noncomputable def R53(L53_2:YL53_2)(A:Bool)(B:List T) :Option Res:=L53_2 (A) (B) (false) ([])
theorem eq53g(KL53_2:Env→St→Option Res)(A:Bool)(B:List T) :gE 53 0 35 Try.f53 (Ta53 KL53_2) [.t (.list 3 A B)] ⟨[],[]⟩=R53 (WL53_2 KL53_2) A B:=by kernel_rfl
theorem eq53(A:Bool)(B:List T) :vr 53 0 [.t (.list 3 A B)] ⟨[],[]⟩=R53 L53_2 A B:=
 Eq.trans (call_eq Try.prog hint (fn:=Try.f53) (nt:=35) (T:=(Ta53 VL53_2)) [PaL53_2] rfl _ _ rfl rfl rfl rfl rfl) (eq53g VL53_2 A B)
noncomputable def RL53_2(L53_2:YL53_2)(l0z:Bool)(l0:List T)(A:Bool)(B:List T) :Option Res:=
(bif (decide (0<(l0.length:Int))) then
 callK (vr 69 0 [.t (.list 3 l0z l0), .fn 70 [] []] ⟨[],[]⟩) fun a b=>asT a fun c=>asI .i64 c fun a=>endB b <|
(bif (decide (a<0)) then
 callK (vr 71 0 [.t (.list 3 l0z l0)] ⟨[],[]⟩) fun b c=>asT b fun d=>asL 3 d fun b f=>endB c <| needC (decide ((B.length+1)*(24+1)≤70368744177664) &&decide (24≤1048576)) fun _=>some ((.t (.list 1 (A || true) (B++([.list 3 b f]:List T)))),⟨[],[]⟩)
else
 cutL l0 none (some a) fun b=>callK (vr 71 0 [.t (.list 3 l0z b)] ⟨[],[]⟩) fun c d=>asT c fun b=>asL 3 b fun c f=>endB d <| needC (decide ((B.length+1)*(24+1)≤70368744177664) &&decide (24≤1048576)) fun _=>cutL l0 (some (IntKind.i64.wrap (a+1))) none fun b=>
(bif (decide ((b.length:Int)=0)) then
 needC (decide ((((B++([.list 3 c f]:List T))).length+1)*(24+1)≤70368744177664) &&decide (24≤1048576)) fun _=>L53_2 (l0z) (b) (((A || true) || true)) (((B++([.list 3 c f]:List T))++([.list 3 false []]:List T)))
else
 L53_2 (l0z) (b) ((A || true)) ((B++([.list 3 c f]:List T)))))
else
 some ((.t (.list 1 A B)),⟨[],[]⟩))
theorem L53_2g(KL53_2:Env→St→Option Res)(l0z:Bool)(l0:List T)(A:Bool)(B:List T) :WL53_2 (fun e st=>gP 53 0 35 Try.f53 (Ta53 KL53_2) (.lp::PaL53_2) e st) l0z l0 A B=RL53_2 (WL53_2 KL53_2) l0z l0 A B:=by kernel_rfl
theorem L53_2_eq(l0z:Bool)(l0:List T)(A:Bool)(B:List T) :L53_2 l0z l0 A B=RL53_2 L53_2 l0z l0 A B:=
 (congrArg (fun k=>WL53_2 k l0z l0 A B) (funext fun e=>funext fun st=>round_eq Try.prog hint (b:=(nav (List.reverse (.lp::PaL53_2)) (bodyOf Try.f53))) (fn:=Try.f53) (nt:=35) (T:=(Ta53 VL53_2)) [PaL53_2] rfl PaL53_2 e st rfl rfl rfl)).trans (L53_2g VL53_2 l0z l0 A B)
noncomputable def R54(A:Int)(B:Bool)(C:List T)(D:Bool) :Option Res:=
(bif D then
 some ((.t (.agg [.int .i64 0, .str ByteArray.empty, .int .i64 0])),⟨[(0, .var [.t (.list 3 B C), .t (.bool true)])],[500]⟩)
else
(bif (decide ((C.length:Int)=0)) then
 some ((.t (.agg [.int .i64 0, .str ByteArray.empty, .int .i64 0])),⟨[(0, .var [.t (.list 3 B C), .t (.bool true)])],[500]⟩)
else
 needC (decide (0≤0)) fun _=>getT C ((0:Int)).toNat fun a=>asA a fun b=>consT b fun a c=>asI .i64 a fun b=>consT c fun a d=>asS a fun c=>consT d fun a c=>asI .i64 a fun d=>endT c <|
(bif (!decide (b=A)) then
 some ((.t (.agg [.int .i64 0, .str ByteArray.empty, .int .i64 0])),⟨[(0, .var [.t (.list 3 B C), .t (.bool true)])],[500]⟩)
else
 needC (decide (0≤0)) fun _=>getT C ((0:Int)).toNat fun a=>asA a fun b=>consT b fun a c=>asI .i64 a fun b=>consT c fun a d=>asS a fun c=>consT d fun a f=>asI .i64 a fun d=>endT f <| cutL C (some 1) none fun a=>some ((.t (.agg [.int .i64 b, .str c, .int .i64 d])),⟨[(0, .var [.t (.list 3 B a), .t (.bool D)])],[500]⟩))))
theorem eq54g(A:Int)(B:Bool)(C:List T)(D:Bool) :gE 54 0 47 Try.f54 [] [.ptr 0 0 0, .t (.int .i64 A)] ⟨[(0, .var [.t (.list 3 B C), .t (.bool D)])],[]⟩=R54 A B C D:=by kernel_rfl
theorem eq54(A:Int)(B:Bool)(C:List T)(D:Bool) :vr 54 0 [.ptr 0 0 0, .t (.int .i64 A)] ⟨[(0, .var [.t (.list 3 B C), .t (.bool D)])],[]⟩=R54 A B C D:=
 Eq.trans (call_eq Try.prog hint (fn:=Try.f54) (nt:=47) (T:=[]) [] rfl _ _ rfl rfl rfl rfl rfl) (eq54g A B C D)
noncomputable def R58 :Option Res:=some ((.t (.list 4 true [.agg [.str ⟨#[104,97,108,116]⟩, .int .i64 0, .int .i64 0, .int .i64 0], .agg [.str ⟨#[115,101,116]⟩, .int .i64 1, .int .i64 5, .int .i64 0], .agg [.str ⟨#[109,111,118,101]⟩, .int .i64 1, .int .i64 2, .int .i64 0], .agg [.str ⟨#[97,100,100]⟩, .int .i64 1, .int .i64 2, .int .i64 2], .agg [.str ⟨#[115,117,98]⟩, .int .i64 1, .int .i64 2, .int .i64 2], .agg [.str ⟨#[109,117,108]⟩, .int .i64 1, .int .i64 2, .int .i64 2], .agg [.str ⟨#[108,111,97,100]⟩, .int .i64 1, .int .i64 3, .int .i64 2], .agg [.str ⟨#[115,116,111,114,101]⟩, .int .i64 3, .int .i64 2, .int .i64 2], .agg [.str ⟨#[108,101,110]⟩, .int .i64 1, .int .i64 3, .int .i64 0], .agg [.str ⟨#[112,117,115,104]⟩, .int .i64 3, .int .i64 2, .int .i64 0], .agg [.str ⟨#[106,117,109,112]⟩, .int .i64 4, .int .i64 0, .int .i64 0], .agg [.str ⟨#[108,101,115,115]⟩, .int .i64 2, .int .i64 2, .int .i64 4], .agg [.str ⟨#[115,97,109,101]⟩, .int .i64 2, .int .i64 2, .int .i64 4]])),⟨[],[]⟩)
theorem eq58g :gE 58 0 30 Try.f58 [] [] ⟨[],[]⟩=R58:=by kernel_rfl
theorem eq58 :vr 58 0 [] ⟨[],[]⟩=R58:=
 Eq.trans (call_eq Try.prog hint (fn:=Try.f58) (nt:=30) (T:=[]) [] rfl _ _ rfl rfl rfl rfl rfl) (eq58g)
noncomputable def R73(A:ByteArray)(B C D:Int)(E:ByteArray) :Option Res:=some ((.t (.bool (decide ((A:ByteArray)=E)))),⟨[(0, .var [.t (.str E)])],[500]⟩)
theorem eq73g(A:ByteArray)(B C D:Int)(E:ByteArray) :gE 73 0 8 Try.f73 [] [.t (.agg [.str A, .int .i64 B, .int .i64 C, .int .i64 D]), .ptr 0 0 0] ⟨[(0, .var [.t (.str E)])],[]⟩=R73 A B C D E:=by kernel_rfl
theorem eq73(A:ByteArray)(B C D:Int)(E:ByteArray) :vr 73 0 [.t (.agg [.str A, .int .i64 B, .int .i64 C, .int .i64 D]), .ptr 0 0 0] ⟨[(0, .var [.t (.str E)])],[]⟩=R73 A B C D E:=
 Eq.trans (call_eq Try.prog hint (fn:=Try.f73) (nt:=8) (T:=[]) [] rfl _ _ rfl rfl rfl rfl rfl) (eq73g A B C D E)
noncomputable def R72(L72_2:YL72_2)(A:Bool)(B:List T)(C:ByteArray) :Option Res:=L72_2 (A) (B) ((B.length:Int)) (0) (C)
theorem eq72g(KL72_2:Env→St→Option Res)(A:Bool)(B:List T)(C:ByteArray) :gE 72 0 19 Try.f72 (Ta72 KL72_2) [.t (.list 4 A B), .fn 73 [] [.ptr 0 0 0]] ⟨[(0, .var [.t (.str C)])],[]⟩=R72 (WL72_2 KL72_2) A B C:=by kernel_rfl
theorem eq72(A:Bool)(B:List T)(C:ByteArray) :vr 72 0 [.t (.list 4 A B), .fn 73 [] [.ptr 0 0 0]] ⟨[(0, .var [.t (.str C)])],[]⟩=R72 L72_2 A B C:=
 Eq.trans (call_eq Try.prog hint (fn:=Try.f72) (nt:=19) (T:=(Ta72 VL72_2)) [PaL72_2] rfl _ _ rfl rfl rfl rfl rfl) (eq72g VL72_2 A B C)
noncomputable def RL72_2(L72_2:YL72_2)(s0z:Bool)(s0:List T)(A B:Int)(C:ByteArray) :Option Res:=
(bif (decide (B<A)) then
 needC (decide (0≤B)) fun _=>getT s0 (B).toNat fun a=>asA a fun b=>consT b fun a c=>asS a fun b=>consT c fun a d=>asI .i64 a fun c=>consT d fun a f=>asI .i64 a fun d=>consT f fun a g=>asI .i64 a fun f=>endT g <| callK (vr 73 0 [.t (.agg [.str b, .int .i64 c, .int .i64 d, .int .i64 f]), .ptr 0 0 0] ⟨[(0, .var [.t (.str C)])],[]⟩) fun a g=>asT a fun b=>asB b fun a=>consB 0 g fun b c=>asVar b fun d=>consV d fun b f=>asT b fun d=>asS d fun b=>endV f <| endB c <|
(bif a then
 some ((.t (.int .i64 B)),⟨[(0, .var [.t (.str b)])],[500]⟩)
else
 L72_2 (s0z) (s0) (A) ((IntKind.i64.wrap (B+1))) (b))
else
 some ((.t (.int .i64 (-1))),⟨[(0, .var [.t (.str C)])],[500]⟩))
theorem L72_2g(KL72_2:Env→St→Option Res)(s0z:Bool)(s0:List T)(A B:Int)(C:ByteArray) :WL72_2 (fun e st=>gP 72 0 19 Try.f72 (Ta72 KL72_2) (.lp::PaL72_2) e st) s0z s0 A B C=RL72_2 (WL72_2 KL72_2) s0z s0 A B C:=by kernel_rfl
theorem L72_2_eq(s0z:Bool)(s0:List T)(A B:Int)(C:ByteArray) :L72_2 s0z s0 A B C=RL72_2 L72_2 s0z s0 A B C:=
 (congrArg (fun k=>WL72_2 k s0z s0 A B C) (funext fun e=>funext fun st=>round_eq Try.prog hint (b:=(nav (List.reverse (.lp::PaL72_2)) (bodyOf Try.f72))) (fn:=Try.f72) (nt:=19) (T:=(Ta72 VL72_2)) [PaL72_2] rfl PaL72_2 e st rfl rfl rfl)).trans (L72_2g VL72_2 s0z s0 A B C)
noncomputable def R38(A:Int) :Option Res:=callK (vr 58 0 [] ⟨[],[]⟩) fun a b=>asT a fun c=>asL 4 c fun a d=>endB b <|
(bif (decide (A<0)) then
 some ((.tup [.t (.agg [.str ByteArray.empty, .int .i64 0, .int .i64 0, .int .i64 0]), .t (.bool false)]),⟨[],[]⟩)
else
(bif (decide ((d.length:Int)≤A)) then
 some ((.tup [.t (.agg [.str ByteArray.empty, .int .i64 0, .int .i64 0, .int .i64 0]), .t (.bool false)]),⟨[],[]⟩)
else
 needC (decide (0≤A)) fun _=>getT d (A).toNat fun a=>asA a fun b=>consT b fun a c=>asS a fun b=>consT c fun a d=>asI .i64 a fun c=>consT d fun a f=>asI .i64 a fun d=>consT f fun a g=>asI .i64 a fun f=>endT g <| some ((.tup [.t (.agg [.str b, .int .i64 c, .int .i64 d, .int .i64 f]), .t (.bool true)]),⟨[],[]⟩)))
theorem eq38g(A:Int) :gE 38 0 19 Try.f38 [] [.t (.int .i64 A)] ⟨[],[]⟩=R38 A:=by kernel_rfl
theorem eq38(A:Int) :vr 38 0 [.t (.int .i64 A)] ⟨[],[]⟩=R38 A:=
 Eq.trans (call_eq Try.prog hint (fn:=Try.f38) (nt:=19) (T:=[]) [] rfl _ _ rfl rfl rfl rfl rfl) (eq38g A)
noncomputable def R42(A B C D E:Int) :Option Res:=some ((.agg [.ptr 0 0 1, .ptr 0 0 2, .ptr 0 0 3]),⟨[(0, .var [.t (.int .i64 A), .t (.int .i64 B), .t (.int .i64 C), .t (.int .i64 D), .t (.int .i64 E)])],[500]⟩)
theorem eq42g(A B C D E:Int) :gE 42 0 13 Try.f42 [] [.ptr 0 0 0] ⟨[(0, .var [.t (.int .i64 A), .t (.int .i64 B), .t (.int .i64 C), .t (.int .i64 D), .t (.int .i64 E)])],[]⟩=R42 A B C D E:=by kernel_rfl
theorem eq42(A B C D E:Int) :vr 42 0 [.ptr 0 0 0] ⟨[(0, .var [.t (.int .i64 A), .t (.int .i64 B), .t (.int .i64 C), .t (.int .i64 D), .t (.int .i64 E)])],[]⟩=R42 A B C D E:=
 Eq.trans (call_eq Try.prog hint (fn:=Try.f42) (nt:=13) (T:=[]) [] rfl _ _ rfl rfl rfl rfl rfl) (eq42g A B C D E)
noncomputable def R85(A B:ByteArray) :Option Res:=
(bif (decide ((B.size:Int)≤(A.size:Int))) then
 subS A none (some (B.size:Int)) fun a=>some ((.t (.bool (decide ((a:ByteArray)=B)))),⟨[],[]⟩)
else
 some ((.t (.bool false)),⟨[],[]⟩))
theorem eq85g(A B:ByteArray) :gE 85 0 18 Try.f85 [] [.t (.str A), .t (.str B)] ⟨[],[]⟩=R85 A B:=by kernel_rfl
theorem eq85(A B:ByteArray) :vr 85 0 [.t (.str A), .t (.str B)] ⟨[],[]⟩=R85 A B:=
 Eq.trans (call_eq Try.prog hint (fn:=Try.f85) (nt:=18) (T:=[]) [] rfl _ _ rfl rfl rfl rfl rfl) (eq85g A B)
noncomputable def R84(A B:ByteArray) :Option Res:=callK (vr 85 0 [.t (.str A), .t (.str B)] ⟨[],[]⟩) fun a b=>asT a fun c=>asB c fun a=>endB b <|
(bif (!a) then
 some ((.tup [.t (.str A), .t (.bool false)]),⟨[],[]⟩)
else
 subS A (some (B.size:Int)) none fun a=>some ((.tup [.t (.str a), .t (.bool true)]),⟨[],[]⟩))
theorem eq84g(A B:ByteArray) :gE 84 0 15 Try.f84 [] [.t (.str A), .t (.str B)] ⟨[],[]⟩=R84 A B:=by kernel_rfl
theorem eq84(A B:ByteArray) :vr 84 0 [.t (.str A), .t (.str B)] ⟨[],[]⟩=R84 A B:=
 Eq.trans (call_eq Try.prog hint (fn:=Try.f84) (nt:=15) (T:=[]) [] rfl _ _ rfl rfl rfl rfl rfl) (eq84g A B)
noncomputable def R82(A B:ByteArray) :Option Res:=callK (vr 84 0 [.t (.str A), .t (.str B)] ⟨[],[]⟩) fun a b=>asTup a fun c=>consV c fun a d=>asT a fun c=>asS c fun a=>consV d fun c f=>asT c fun d=>asB d fun c=>endV f <| endB b <| some ((.tup [.t (.str a), .t (.bool c)]),⟨[],[]⟩)
theorem eq82g(A B:ByteArray) :gE 82 0 11 Try.f82 [] [.t (.str A), .t (.str B)] ⟨[],[]⟩=R82 A B:=by kernel_rfl
theorem eq82(A B:ByteArray) :vr 82 0 [.t (.str A), .t (.str B)] ⟨[],[]⟩=R82 A B:=
 Eq.trans (call_eq Try.prog hint (fn:=Try.f82) (nt:=11) (T:=[]) [] rfl _ _ rfl rfl rfl rfl rfl) (eq82g A B)
noncomputable def R74(A:ByteArray)(B:Bool)(C:List T)(D:Bool) :Option Res:=callK (vr 54 0 [.ptr 0 0 0, .t (.int .i64 1)] (Z1 B C D)) fun a b=>asT a fun c=>asA c fun a=>consT a fun c d=>asI .i64 c fun a=>consT d fun a c=>asS a fun d=>consT c fun a f=>asI .i64 a fun c=>endT f <| consB 0 b fun a c=>asVar a fun b=>consV b fun a f=>asT a fun b=>asL 3 b fun a g=>consV f fun b h=>asT b fun f=>asB f fun b=>endV h <| endB c <| callK (vr 82 0 [.t (.str d), .t (.str A)] ⟨[],[]⟩) fun c f=>asTup c fun d=>consV d fun c h=>asT c fun d=>asS d fun c=>consV h fun d i=>
 asT d fun h=>asB h fun d=>endV i <| endB f <| callK (vr 81 0 [.t (.str c)] ⟨[],[]⟩) fun f h=>asTup f fun c=>consV c fun f i=>asT f fun c=>asI .i64 c fun f=>consV i fun c j=>asT c fun i=>asB i fun c=>endV j <| endB h <|
(bif (!d) then
 some ((.t (.int .i64 f)),⟨[(0, .var [.t (.list 3 a g), .t (.bool true)])],[500]⟩)
else
(bif (!c) then
 some ((.t (.int .i64 f)),⟨[(0, .var [.t (.list 3 a g), .t (.bool true)])],[500]⟩)
else
 some ((.t (.int .i64 f)),⟨[(0, .var [.t (.list 3 a g), .t (.bool b)])],[500]⟩)))
theorem eq74g(A:ByteArray)(B:Bool)(C:List T)(D:Bool) :gE 74 0 32 Try.f74 [] [.ptr 0 0 0, .t (.str A)] ⟨[(0, .var [.t (.list 3 B C), .t (.bool D)])],[]⟩=R74 A B C D:=by kernel_rfl
theorem eq74(A:ByteArray)(B:Bool)(C:List T)(D:Bool) :vr 74 0 [.ptr 0 0 0, .t (.str A)] ⟨[(0, .var [.t (.list 3 B C), .t (.bool D)])],[]⟩=R74 A B C D:=
 Eq.trans (call_eq Try.prog hint (fn:=Try.f74) (nt:=32) (T:=[]) [] rfl _ _ rfl rfl rfl rfl rfl) (eq74g A B C D)
noncomputable def R75(A:Bool)(B:List T)(C:Bool) :Option Res:=
(bif (decide ((B.length:Int)=0)) then
 callK (vr 54 0 [.ptr 0 0 0, .t (.int .i64 2)] (Z1 A B C)) fun a b=>asT a fun c=>asA c fun a=>consT a fun c d=>asI .i64 c fun a=>consT d fun a c=>asS a fun d=>consT c fun a d=>asI .i64 a fun c=>endT d <| consB 0 b fun a d=>asVar a fun b=>consV b fun a f=>asT a fun b=>asL 3 b fun a g=>consV f fun b h=>asT b fun f=>asB f fun b=>endV h <| endB d <| some ((.t (.int .i64 c)),⟨[(0, .var [.t (.list 3 a g), .t (.bool b)])],[500]⟩)
else
 needC (decide (0≤0)) fun _=>getT B ((0:Int)).toNat fun a=>asA a fun b=>consT b fun a c=>asI .i64 a fun b=>consT c fun a b=>asS a fun c=>consT b fun a d=>asI .i64 a fun b=>endT d <|
(bif (!decide ((c:ByteArray)=⟨#[45]⟩)) then
 callK (vr 54 0 [.ptr 0 0 0, .t (.int .i64 2)] (Z1 A B C)) fun a b=>asT a fun c=>asA c fun a=>consT a fun c d=>asI .i64 c fun a=>consT d fun a c=>asS a fun d=>consT c fun a d=>asI .i64 a fun c=>endT d <| consB 0 b fun a d=>asVar a fun b=>consV b fun a f=>asT a fun b=>asL 3 b fun a g=>consV f fun b h=>asT b fun f=>asB f fun b=>endV h <| endB d <| some ((.t (.int .i64 c)),⟨[(0, .var [.t (.list 3 a g), .t (.bool b)])],[500]⟩)
else
 callK (vr 54 0 [.ptr 0 0 0, .t (.int .i64 3)] (Z1 A B C)) fun a b=>asT a fun c=>asA c fun a=>consT a fun c d=>asI .i64 c fun a=>consT d fun a c=>asS a fun d=>consT c fun a d=>asI .i64 a fun c=>endT d <| consB 0 b fun a c=>asVar a fun b=>consV b fun a d=>asT a fun b=>asL 3 b fun a f=>consV d fun b g=>asT b fun d=>asB d fun b=>endV g <| endB c <| callK (vr 54 0 [.ptr 0 0 0, .t (.int .i64 2)] (Z1 a f b)) fun c d=>asT c fun a=>asA a fun b=>consT b fun a c=>asI .i64 a fun b=>consT c fun a b=>asS a fun c=>consT b fun a c=>asI .i64 a fun b=>endT c <|
 consB 0 d fun a c=>asVar a fun d=>consV d fun a f=>asT a fun d=>asL 3 d fun a g=>consV f fun d h=>asT d fun f=>asB f fun d=>endV h <| endB c <|
(bif (decide (b=0)) then
 some ((.t (.int .i64 (IntKind.i64.wrap (0 - b)))),⟨[(0, .var [.t (.list 3 a g), .t (.bool true)])],[500]⟩)
else
 some ((.t (.int .i64 (IntKind.i64.wrap (0 - b)))),⟨[(0, .var [.t (.list 3 a g), .t (.bool d)])],[500]⟩))))
theorem eq75g(A:Bool)(B:List T)(C:Bool) :gE 75 0 35 Try.f75 [] [.ptr 0 0 0] ⟨[(0, .var [.t (.list 3 A B), .t (.bool C)])],[]⟩=R75 A B C:=by kernel_rfl
theorem eq75(A:Bool)(B:List T)(C:Bool) :vr 75 0 [.ptr 0 0 0] ⟨[(0, .var [.t (.list 3 A B), .t (.bool C)])],[]⟩=R75 A B C:=
 Eq.trans (call_eq Try.prog hint (fn:=Try.f75) (nt:=35) (T:=[]) [] rfl _ _ rfl rfl rfl rfl rfl) (eq75g A B C)
noncomputable def RH55_7_1(J55_6:YJ55_6)(A:Bool)(B:List T)(C:Bool)(D E F G H:Int)(I:ByteArray)(J K L:Int) :Option Res:=some ((.t (.agg [.int .i64 D, .int .i64 E, .int .i64 F, .int .i64 G, .int .i64 H])),⟨[(0, .var [.t (.list 3 A B), .t (.bool C)])],[500]⟩)
noncomputable def RH55_7_2(J55_6:YJ55_6)(A:Bool)(B:List T)(C:Bool)(D E F G H:Int)(I:ByteArray)(J K L:Int) :Option Res:=
(bif (decide (L=1)) then
 callK (vr 74 0 [.ptr 0 0 0, .t (.str ⟨#[114]⟩)] (Z1 A B C)) fun a b=>asT a fun c=>asI .i64 c fun a=>consB 0 b fun c d=>asVar c fun b=>consV b fun c f=>asT c fun b=>asL 3 b fun c g=>consV f fun b h=>asT b fun f=>asB f fun b=>endV h <| endB d <| RH55_7_1 J55_6 (c) (g) (b) (D) (E) (F) (a) (H) (I) (J) (K) (L)
else
(bif (decide (L=2)) then
 callK (vr 74 0 [.ptr 0 0 0, .t (.str ⟨#[114]⟩)] (Z1 A B C)) fun a b=>asT a fun c=>asI .i64 c fun a=>consB 0 b fun c d=>asVar c fun b=>consV b fun c f=>asT c fun b=>asL 3 b fun c g=>consV f fun b h=>asT b fun f=>asB f fun b=>endV h <| endB d <| RH55_7_1 J55_6 (c) (g) (b) (D) (E) (F) (a) (H) (I) (J) (K) (L)
else
(bif (decide (L=3)) then
 callK (vr 74 0 [.ptr 0 0 0, .t (.str ⟨#[97]⟩)] (Z1 A B C)) fun a b=>asT a fun c=>asI .i64 c fun a=>consB 0 b fun c d=>asVar c fun b=>consV b fun c f=>asT c fun b=>asL 3 b fun c g=>consV f fun b h=>asT b fun f=>asB f fun b=>endV h <| endB d <| RH55_7_1 J55_6 (c) (g) (b) (D) (E) (F) (a) (H) (I) (J) (K) (L)
else
(bif (decide (L=4)) then
 callK (vr 54 0 [.ptr 0 0 0, .t (.int .i64 2)] (Z1 A B C)) fun a b=>asT a fun c=>asA c fun a=>consT a fun c d=>asI .i64 c fun a=>consT d fun a c=>asS a fun d=>consT c fun a d=>asI .i64 a fun c=>endT d <| consB 0 b fun a d=>asVar a fun b=>consV b fun a f=>asT a fun b=>asL 3 b fun a g=>consV f fun b h=>asT b fun f=>asB f fun b=>endV h <| endB d <| RH55_7_1 J55_6 (a) (g) (b) (D) (E) (F) (c) (H) (I) (J) (K) (L)
else
(bif (decide (L=5)) then
 callK (vr 75 0 [.ptr 0 0 0] (Z1 A B C)) fun a b=>asT a fun c=>asI .i64 c fun a=>consB 0 b fun c d=>asVar c fun b=>consV b fun c f=>asT c fun b=>asL 3 b fun c g=>consV f fun b h=>asT b fun f=>asB f fun b=>endV h <| endB d <| RH55_7_1 J55_6 (c) (g) (b) (D) (E) (F) (G) (a) (I) (J) (K) (L)
else
 RH55_7_1 J55_6 (A) (B) (C) (D) (E) (F) (G) (H) (I) (J) (K) (L))))))
noncomputable def RH55_7_3(J55_6:YJ55_6)(A:Bool)(B:List T)(C:Bool)(D E F G H:Int)(I:ByteArray)(J K L:Int) :Option Res:=
(bif (decide (K=1)) then
 callK (vr 74 0 [.ptr 0 0 0, .t (.str ⟨#[114]⟩)] (Z1 A B C)) fun a b=>asT a fun c=>asI .i64 c fun a=>consB 0 b fun c d=>asVar c fun b=>consV b fun c f=>asT c fun b=>asL 3 b fun c g=>consV f fun b h=>asT b fun f=>asB f fun b=>endV h <| endB d <| RH55_7_2 J55_6 (c) (g) (b) (D) (E) (a) (G) (H) (I) (J) (K) (L)
else
(bif (decide (K=2)) then
 callK (vr 74 0 [.ptr 0 0 0, .t (.str ⟨#[114]⟩)] (Z1 A B C)) fun a b=>asT a fun c=>asI .i64 c fun a=>consB 0 b fun c d=>asVar c fun b=>consV b fun c f=>asT c fun b=>asL 3 b fun c g=>consV f fun b h=>asT b fun f=>asB f fun b=>endV h <| endB d <| RH55_7_2 J55_6 (c) (g) (b) (D) (E) (a) (G) (H) (I) (J) (K) (L)
else
(bif (decide (K=3)) then
 callK (vr 74 0 [.ptr 0 0 0, .t (.str ⟨#[97]⟩)] (Z1 A B C)) fun a b=>asT a fun c=>asI .i64 c fun a=>consB 0 b fun c d=>asVar c fun b=>consV b fun c f=>asT c fun b=>asL 3 b fun c g=>consV f fun b h=>asT b fun f=>asB f fun b=>endV h <| endB d <| RH55_7_2 J55_6 (c) (g) (b) (D) (E) (a) (G) (H) (I) (J) (K) (L)
else
(bif (decide (K=4)) then
 callK (vr 54 0 [.ptr 0 0 0, .t (.int .i64 2)] (Z1 A B C)) fun a b=>asT a fun c=>asA c fun a=>consT a fun c d=>asI .i64 c fun a=>consT d fun a c=>asS a fun d=>consT c fun a d=>asI .i64 a fun c=>endT d <| consB 0 b fun a d=>asVar a fun b=>consV b fun a f=>asT a fun b=>asL 3 b fun a g=>consV f fun b h=>asT b fun f=>asB f fun b=>endV h <| endB d <| RH55_7_2 J55_6 (a) (g) (b) (D) (E) (c) (G) (H) (I) (J) (K) (L)
else
(bif (decide (K=5)) then
 callK (vr 75 0 [.ptr 0 0 0] (Z1 A B C)) fun a b=>asT a fun c=>asI .i64 c fun a=>consB 0 b fun c d=>asVar c fun b=>consV b fun c f=>asT c fun b=>asL 3 b fun c g=>consV f fun b h=>asT b fun f=>asB f fun b=>endV h <| endB d <| RH55_7_2 J55_6 (c) (g) (b) (D) (E) (F) (G) (a) (I) (J) (K) (L)
else
 RH55_7_2 J55_6 (A) (B) (C) (D) (E) (F) (G) (H) (I) (J) (K) (L))))))
noncomputable def RH55_7_4(J55_6:YJ55_6)(A:Bool)(B:List T)(C:Bool)(D E F G H:Int)(I:ByteArray)(J K L:Int) :Option Res:=
(bif (decide (J=1)) then
 callK (vr 74 0 [.ptr 0 0 0, .t (.str ⟨#[114]⟩)] (Z1 A B C)) fun a b=>asT a fun c=>asI .i64 c fun a=>consB 0 b fun c d=>asVar c fun b=>consV b fun c f=>asT c fun b=>asL 3 b fun c g=>consV f fun b h=>asT b fun f=>asB f fun b=>endV h <| endB d <| RH55_7_3 J55_6 (c) (g) (b) (D) (a) (F) (G) (H) (I) (J) (K) (L)
else
(bif (decide (J=2)) then
 callK (vr 74 0 [.ptr 0 0 0, .t (.str ⟨#[114]⟩)] (Z1 A B C)) fun a b=>asT a fun c=>asI .i64 c fun a=>consB 0 b fun c d=>asVar c fun b=>consV b fun c f=>asT c fun b=>asL 3 b fun c g=>consV f fun b h=>asT b fun f=>asB f fun b=>endV h <| endB d <| RH55_7_3 J55_6 (c) (g) (b) (D) (a) (F) (G) (H) (I) (J) (K) (L)
else
(bif (decide (J=3)) then
 callK (vr 74 0 [.ptr 0 0 0, .t (.str ⟨#[97]⟩)] (Z1 A B C)) fun a b=>asT a fun c=>asI .i64 c fun a=>consB 0 b fun c d=>asVar c fun b=>consV b fun c f=>asT c fun b=>asL 3 b fun c g=>consV f fun b h=>asT b fun f=>asB f fun b=>endV h <| endB d <| RH55_7_3 J55_6 (c) (g) (b) (D) (a) (F) (G) (H) (I) (J) (K) (L)
else
(bif (decide (J=4)) then
 callK (vr 54 0 [.ptr 0 0 0, .t (.int .i64 2)] (Z1 A B C)) fun a b=>asT a fun c=>asA c fun a=>consT a fun c d=>asI .i64 c fun a=>consT d fun a c=>asS a fun d=>consT c fun a d=>asI .i64 a fun c=>endT d <| consB 0 b fun a d=>asVar a fun b=>consV b fun a f=>asT a fun b=>asL 3 b fun a g=>consV f fun b h=>asT b fun f=>asB f fun b=>endV h <| endB d <| RH55_7_3 J55_6 (a) (g) (b) (D) (c) (F) (G) (H) (I) (J) (K) (L)
else
(bif (decide (J=5)) then
 callK (vr 75 0 [.ptr 0 0 0] (Z1 A B C)) fun a b=>asT a fun c=>asI .i64 c fun a=>consB 0 b fun c d=>asVar c fun b=>consV b fun c f=>asT c fun b=>asL 3 b fun c g=>consV f fun b h=>asT b fun f=>asB f fun b=>endV h <| endB d <| RH55_7_3 J55_6 (c) (g) (b) (D) (E) (F) (G) (a) (I) (J) (K) (L)
else
 RH55_7_3 J55_6 (A) (B) (C) (D) (E) (F) (G) (H) (I) (J) (K) (L))))))
noncomputable def R55(J55_6:YJ55_6)(A:Bool)(B:List T)(C:Bool) :Option Res:=callK (vr 54 0 [.ptr 0 0 0, .t (.int .i64 1)] (Z1 A B C)) fun a b=>asT a fun c=>asA c fun a=>consT a fun c d=>asI .i64 c fun a=>consT d fun a c=>asS a fun d=>consT c fun a f=>asI .i64 a fun c=>endT f <| consB 0 b fun a c=>asVar a fun b=>consV b fun a f=>asT a fun b=>asL 3 b fun a g=>consV f fun b h=>asT b fun f=>asB f fun b=>endV h <| endB c <| callK (vr 58 0 [] ⟨[],[]⟩) fun c f=>asT c fun h=>asL 4 h fun c i=>endB f <| callK (vr 72 0 [.t (.list 4 c i), .fn 73 [] [.ptr 0 0 0]] ⟨[(0, .var [.t (.str d)])],[]⟩) fun f h=>
 asT f fun c=>asI .i64 c fun d=>consB 0 h fun c f=>asVar c fun h=>consV h fun c i=>asT c fun h=>asS h fun c=>endV i <| endB f <| callK (vr 38 0 [.t (.int .i64 d)] ⟨[],[]⟩) fun c f=>asTup c fun h=>consV h fun c i=>asT c fun h=>asA h fun c=>consT c fun h j=>asS h fun c=>consT j fun h k=>asI .i64 h fun j=>consT k fun h l=>asI .i64 h fun k=>consT l fun h m=>asI .i64 h fun l=>endT m <| consV i fun h m=>asT h fun i=>asB i fun h=>endV m <| endB f <|
(bif (!h) then
 J55_6 (a) (g) (true) (d) (0) (0) (0) (0) (c) (j) (k) (l)
else
 J55_6 (a) (g) (b) (d) (0) (0) (0) (0) (c) (j) (k) (l))
theorem eq55g(KJ55_6:Env→St→Option Res)(A:Bool)(B:List T)(C:Bool) :gE 55 0 62 Try.f55 (Ta55 KJ55_6) [.ptr 0 0 0] ⟨[(0, .var [.t (.list 3 A B), .t (.bool C)])],[]⟩=R55 (WJ55_6 KJ55_6) A B C:=by kernel_rfl
theorem eq55(A:Bool)(B:List T)(C:Bool) :vr 55 0 [.ptr 0 0 0] ⟨[(0, .var [.t (.list 3 A B), .t (.bool C)])],[]⟩=R55 J55_6 A B C:=
 Eq.trans (call_eq Try.prog hint (fn:=Try.f55) (nt:=62) (T:=(Ta55 VJ55_6)) [PaJ55_6] rfl _ _ rfl rfl rfl rfl rfl) (eq55g VJ55_6 A B C)
noncomputable def RJ55_6(J55_6:YJ55_6)(A:Bool)(B:List T)(C:Bool)(D E F G H:Int)(I:ByteArray)(J K L:Int) :Option Res:=callK (vr 42 0 [.ptr 0 0 0] ⟨[(0, .var [.t (.int .i64 D), .t (.int .i64 E), .t (.int .i64 F), .t (.int .i64 G), .t (.int .i64 H)])],[]⟩) fun a b=>asG a fun c=>consV c fun a d=>isPtr 0 0 1 a <| consV d fun a c=>isPtr 0 0 2 a <| consV c fun a d=>isPtr 0 0 3 a <| endV d <| consB 0 b fun a c=>asVar a fun b=>consV b fun a d=>asT a fun b=>asI .i64 b fun a=>consV d fun b f=>asT b fun d=>asI .i64 d fun b=>consV f fun d g=>asT d fun f=>
 asI .i64 f fun d=>consV g fun f h=>asT f fun g=>asI .i64 g fun f=>consV h fun g i=>asT g fun h=>asI .i64 h fun g=>endV i <| endB c <| RH55_7_4 J55_6 (A) (B) (C) (a) (b) (d) (f) (g) (I) (J) (K) (L)
theorem J55_6g(KJ55_6:Env→St→Option Res)(A:Bool)(B:List T)(C:Bool)(D E F G H:Int)(I:ByteArray)(J K L:Int) :WJ55_6 (fun e st=>gP 55 0 62 Try.f55 (Ta55 KJ55_6) PaJ55_6 e st) A B C D E F G H I J K L=RJ55_6 (WJ55_6 KJ55_6) A B C D E F G H I J K L:=by kernel_rfl
theorem J55_6_eq(A:Bool)(B:List T)(C:Bool)(D E F G H:Int)(I:ByteArray)(J K L:Int) :J55_6 A B C D E F G H I J K L=RJ55_6 J55_6 A B C D E F G H I J K L:=
 (congrArg (fun k=>WJ55_6 k A B C D E F G H I J K L) (funext fun e=>funext fun st=>join_eq Try.prog hint (fn:=Try.f55) (nt:=62) (T:=(Ta55 VJ55_6)) [PaJ55_6] rfl PaJ55_6 e st rfl)).trans (J55_6g VJ55_6 A B C D E F G H I J K L)
noncomputable def R44(A B C D E F G H:Int)(I:Bool)(J:List T) :Option Res:=callK (vr 38 0 [.t (.int .i64 A)] ⟨[],[]⟩) fun a b=>asTup a fun c=>consV c fun a d=>asT a fun c=>asA c fun a=>consT a fun c f=>asS c fun a=>consT f fun a c=>asI .i64 a fun f=>consT c fun a g=>asI .i64 a fun c=>consT g fun a h=>asI .i64 a fun g=>endT h <| consV d fun a h=>asT a fun d=>asB d fun a=>endV h <| endB b <| callK (vr 42 0 [.ptr 0 0 0] ⟨[(0, .var [.t (.int .i64 A), .t (.int .i64 B), .t (.int .i64 C), .t (.int .i64 D), .t (.int .i64 E)])],[]⟩) fun b d=>asG b fun h=>
 consV h fun b i=>isPtr 0 0 1 b <| consV i fun b h=>isPtr 0 0 2 b <| consV h fun b i=>isPtr 0 0 3 b <| endV i <| consB 0 d fun b h=>asVar b fun d=>consV d fun b i=>asT b fun d=>asI .i64 d fun b=>consV i fun b d=>asT b fun i=>asI .i64 i fun b=>consV d fun i j=>asT i fun d=>asI .i64 d fun i=>consV j fun d k=>asT d fun j=>asI .i64 j fun d=>consV k fun j l=>asT j fun k=>asI .i64 k fun j=>endV l <| endB h <|
(bif a then
(bif (decide (0≤b)) then
 needC (decide (0≤f) &&decide (f<(6:Int))) fun _=>getT ([.int .i64 1, .int .i64 F, .int .i64 F, .int .i64 G, .int .i64 (J.length:Int), .int .i64 1]) ((0+(f).toNat*1)) fun a=>asI .i64 a fun f=>
(bif (decide (b<f)) then
(bif (decide (0≤i)) then
 needC (decide (0≤c) &&decide (c<(6:Int))) fun _=>getT ([.int .i64 1, .int .i64 F, .int .i64 F, .int .i64 G, .int .i64 (J.length:Int), .int .i64 1]) ((0+(c).toNat*1)) fun a=>asI .i64 a fun b=>
(bif (decide (i<b)) then
(bif (decide (0≤d)) then
 needC (decide (0≤g) &&decide (g<(6:Int))) fun _=>getT ([.int .i64 1, .int .i64 F, .int .i64 F, .int .i64 G, .int .i64 (J.length:Int), .int .i64 1]) ((0+(g).toNat*1)) fun a=>asI .i64 a fun b=>
(bif (!decide (c=5)) then
(bif (decide (d<b)) then
 some ((.t (.bool (decide (j=0)))),⟨[],[]⟩)
else
 some ((.t (.bool false)),⟨[],[]⟩))
else
(bif (decide (d<b)) then
(bif (decide ((-1000000000000000000)<j)) then
 some ((.t (.bool (decide (j<1000000000000000000)))),⟨[],[]⟩)
else
 some ((.t (.bool false)),⟨[],[]⟩))
else
 some ((.t (.bool false)),⟨[],[]⟩)))
else
(bif (!decide (c=5)) then
 some ((.t (.bool false)),⟨[],[]⟩)
else
 some ((.t (.bool false)),⟨[],[]⟩)))
else
(bif (!decide (c=5)) then
 some ((.t (.bool false)),⟨[],[]⟩)
else
 some ((.t (.bool false)),⟨[],[]⟩)))
else
(bif (!decide (c=5)) then
 some ((.t (.bool false)),⟨[],[]⟩)
else
 some ((.t (.bool false)),⟨[],[]⟩)))
else
(bif (!decide (c=5)) then
 some ((.t (.bool false)),⟨[],[]⟩)
else
 some ((.t (.bool false)),⟨[],[]⟩)))
else
(bif (!decide (c=5)) then
 some ((.t (.bool false)),⟨[],[]⟩)
else
 some ((.t (.bool false)),⟨[],[]⟩)))
else
(bif (!decide (c=5)) then
 some ((.t (.bool false)),⟨[],[]⟩)
else
 some ((.t (.bool false)),⟨[],[]⟩)))
theorem eq44g(A B C D E F G H:Int)(I:Bool)(J:List T) :gE 44 0 72 Try.f44 [] [.t (.agg [.int .i64 A, .int .i64 B, .int .i64 C, .int .i64 D, .int .i64 E]), .t (.agg [.int .i64 F, .int .i64 G, .int .i64 H, .list 5 I J])] ⟨[],[]⟩=R44 A B C D E F G H I J:=by kernel_rfl
theorem eq44(A B C D E F G H:Int)(I:Bool)(J:List T) :vr 44 0 [.t (.agg [.int .i64 A, .int .i64 B, .int .i64 C, .int .i64 D, .int .i64 E]), .t (.agg [.int .i64 F, .int .i64 G, .int .i64 H, .list 5 I J])] ⟨[],[]⟩=R44 A B C D E F G H I J:=
 Eq.trans (call_eq Try.prog hint (fn:=Try.f44) (nt:=72) (T:=[]) [] rfl _ _ rfl rfl rfl rfl rfl) (eq44g A B C D E F G H I J)
noncomputable def R43(A B C D E F G H:Int)(I:Bool)(J:List T) :Option Res:=callK (vr 44 0 [.t (.agg [.int .i64 A, .int .i64 B, .int .i64 C, .int .i64 D, .int .i64 E]), .t (.agg [.int .i64 F, .int .i64 G, .int .i64 H, .list 5 I J])] ⟨[],[]⟩) fun a b=>asT a fun c=>asB c fun a=>endB b <| some ((.t (.bool (!a))),(Z2 F G H I J))
theorem eq43g(A B C D E F G H:Int)(I:Bool)(J:List T) :gE 43 0 8 Try.f43 [] [.t (.agg [.int .i64 A, .int .i64 B, .int .i64 C, .int .i64 D, .int .i64 E]), .ptr 0 0 0] ⟨[(0, .var [.t (.int .i64 F), .t (.int .i64 G), .t (.int .i64 H), .t (.list 5 I J)])],[]⟩=R43 A B C D E F G H I J:=by kernel_rfl
theorem eq43(A B C D E F G H:Int)(I:Bool)(J:List T) :vr 43 0 [.t (.agg [.int .i64 A, .int .i64 B, .int .i64 C, .int .i64 D, .int .i64 E]), .ptr 0 0 0] ⟨[(0, .var [.t (.int .i64 F), .t (.int .i64 G), .t (.int .i64 H), .t (.list 5 I J)])],[]⟩=R43 A B C D E F G H I J:=
 Eq.trans (call_eq Try.prog hint (fn:=Try.f43) (nt:=8) (T:=[]) [] rfl _ _ rfl rfl rfl rfl rfl) (eq43g A B C D E F G H I J)
noncomputable def R59(L59_2:YL59_2)(A:Bool)(B:List T)(C D E:Int)(F:Bool)(G:List T) :Option Res:=L59_2 (A) (B) ((B.length:Int)) (0) (C) (D) (E) (F) (G)
theorem eq59g(KL59_2:Env→St→Option Res)(A:Bool)(B:List T)(C D E:Int)(F:Bool)(G:List T) :gE 59 0 19 Try.f59 (Ta59 KL59_2) [.t (.list 5 A B), .fn 43 [] [.ptr 0 0 0]] ⟨[(0, .var [.t (.int .i64 C), .t (.int .i64 D), .t (.int .i64 E), .t (.list 5 F G)])],[]⟩=R59 (WL59_2 KL59_2) A B C D E F G:=by kernel_rfl
theorem eq59(A:Bool)(B:List T)(C D E:Int)(F:Bool)(G:List T) :vr 59 0 [.t (.list 5 A B), .fn 43 [] [.ptr 0 0 0]] ⟨[(0, .var [.t (.int .i64 C), .t (.int .i64 D), .t (.int .i64 E), .t (.list 5 F G)])],[]⟩=R59 L59_2 A B C D E F G:=
 Eq.trans (call_eq Try.prog hint (fn:=Try.f59) (nt:=19) (T:=(Ta59 VL59_2)) [PaL59_2] rfl _ _ rfl rfl rfl rfl rfl) (eq59g VL59_2 A B C D E F G)
noncomputable def RL59_2(L59_2:YL59_2)(s0z:Bool)(s0:List T)(A B C D E:Int)(F:Bool)(G:List T) :Option Res:=
(bif (decide (B<A)) then
 needC (decide (0≤B)) fun _=>getT s0 (B).toNat fun a=>asA a fun b=>consT b fun a c=>asI .i64 a fun b=>consT c fun a d=>asI .i64 a fun c=>consT d fun a f=>asI .i64 a fun d=>consT f fun a g=>asI .i64 a fun f=>consT g fun a h=>asI .i64 a fun g=>endT h <| callK (vr 43 0 [.t (.agg [.int .i64 b, .int .i64 c, .int .i64 d, .int .i64 f, .int .i64 g]), .ptr 0 0 0] (Z3 C D E F G)) fun a h=>asT a fun b=>asB b fun a=>consB 0 h fun b c=>asVar b fun d=>consV d fun b f=>asT b fun d=>asI .i64 d fun b=>consV f fun d g=>asT d fun f=>asI .i64 f fun d=>consV g fun f h=>
 asT f fun g=>asI .i64 g fun f=>consV h fun g i=>asT g fun h=>asL 5 h fun g j=>endV i <| endB c <|
(bif a then
 some ((.t (.int .i64 B)),(Z2 b d f g j))
else
 L59_2 (s0z) (s0) (A) ((IntKind.i64.wrap (B+1))) (b) (d) (f) (g) (j))
else
 some ((.t (.int .i64 (-1))),(Z2 C D E F G)))
theorem L59_2g(KL59_2:Env→St→Option Res)(s0z:Bool)(s0:List T)(A B C D E:Int)(F:Bool)(G:List T) :WL59_2 (fun e st=>gP 59 0 19 Try.f59 (Ta59 KL59_2) (.lp::PaL59_2) e st) s0z s0 A B C D E F G=RL59_2 (WL59_2 KL59_2) s0z s0 A B C D E F G:=by kernel_rfl
theorem L59_2_eq(s0z:Bool)(s0:List T)(A B C D E:Int)(F:Bool)(G:List T) :L59_2 s0z s0 A B C D E F G=RL59_2 L59_2 s0z s0 A B C D E F G:=
 (congrArg (fun k=>WL59_2 k s0z s0 A B C D E F G) (funext fun e=>funext fun st=>round_eq Try.prog hint (b:=(nav (List.reverse (.lp::PaL59_2)) (bodyOf Try.f59))) (fn:=Try.f59) (nt:=19) (T:=(Ta59 VL59_2)) [PaL59_2] rfl PaL59_2 e st rfl rfl rfl)).trans (L59_2g VL59_2 s0z s0 A B C D E F G)
noncomputable def R40(A:Bool)(B:List T)(C D E:Int)(F:Bool)(G:List T) :Option Res:=callK (vr 59 0 [.t (.list 5 A B), .fn 43 [] [.ptr 0 0 0]] (Z3 C D E F G)) fun a b=>asT a fun c=>asI .i64 c fun a=>consB 0 b fun c d=>asVar c fun b=>consV b fun c f=>asT c fun b=>asI .i64 b fun c=>consV f fun b g=>asT b fun f=>asI .i64 f fun b=>consV g fun f h=>asT f fun g=>asI .i64 g fun f=>consV h fun g i=>asT g fun h=>asL 5 h fun g j=>endV i <| endB d <| some ((.t (.bool (decide (0≤a)))),(Z2 c b f g j))
theorem eq40g(A:Bool)(B:List T)(C D E:Int)(F:Bool)(G:List T) :gE 40 0 9 Try.f40 [] [.t (.list 5 A B), .fn 43 [] [.ptr 0 0 0]] ⟨[(0, .var [.t (.int .i64 C), .t (.int .i64 D), .t (.int .i64 E), .t (.list 5 F G)])],[]⟩=R40 A B C D E F G:=by kernel_rfl
theorem eq40(A:Bool)(B:List T)(C D E:Int)(F:Bool)(G:List T) :vr 40 0 [.t (.list 5 A B), .fn 43 [] [.ptr 0 0 0]] ⟨[(0, .var [.t (.int .i64 C), .t (.int .i64 D), .t (.int .i64 E), .t (.list 5 F G)])],[]⟩=R40 A B C D E F G:=
 Eq.trans (call_eq Try.prog hint (fn:=Try.f40) (nt:=9) (T:=[]) [] rfl _ _ rfl rfl rfl rfl rfl) (eq40g A B C D E F G)
noncomputable def R18(A B C:Int)(D:Bool)(E:List T) :Option Res:=
(bif (decide (0≤A)) then
(bif (decide (A≤128)) then
(bif (decide (0≤B)) then
(bif (decide (B≤128)) then
(bif (decide (0≤C)) then
(bif (!(decide (C≤B))) then
 some ((.t (.int .i64 1)),⟨[],[]⟩)
else
(bif (decide ((E.length:Int)=0)) then
 some ((.t (.int .i64 1)),⟨[],[]⟩)
else
(bif (decide (4096<(E.length:Int))) then
 some ((.t (.int .i64 1)),⟨[],[]⟩)
else
 callK (vr 40 0 [.t (.list 5 D E), .fn 43 [] [.ptr 0 0 0]] (Z3 A B C D E)) fun a b=>asT a fun c=>asB c fun a=>consB 0 b fun c d=>asVar c fun b=>consV b fun c f=>asT c fun b=>asI .i64 b fun c=>consV f fun b c=>asT b fun f=>asI .i64 f fun b=>consV c fun b f=>asT b fun c=>asI .i64 c fun b=>consV f fun b c=>asT b fun f=>asL 5 f fun b g=>endV c <| endB d <|
(bif a then
 some ((.t (.int .i64 1)),⟨[],[]⟩)
else
 needC (decide (0≤(IntKind.i64.wrap ((g.length:Int) - 1)))) fun _=>getT g ((IntKind.i64.wrap ((g.length:Int) - 1))).toNat fun a=>asA a fun b=>consT b fun a c=>asI .i64 a fun b=>consT c fun a d=>asI .i64 a fun c=>consT d fun a c=>asI .i64 a fun d=>consT c fun a d=>asI .i64 a fun c=>consT d fun a c=>asI .i64 a fun d=>endT c <|
(bif (!decide (b=0)) then
(bif (!decide (b=10)) then
 some ((.t (.int .i64 1)),⟨[],[]⟩)
else
 some ((.t (.int .i64 0)),⟨[],[]⟩))
else
 some ((.t (.int .i64 0)),⟨[],[]⟩))))))
else
 some ((.t (.int .i64 1)),⟨[],[]⟩))
else
 some ((.t (.int .i64 1)),⟨[],[]⟩))
else
 some ((.t (.int .i64 1)),⟨[],[]⟩))
else
 some ((.t (.int .i64 1)),⟨[],[]⟩))
else
 some ((.t (.int .i64 1)),⟨[],[]⟩))
theorem eq18g(A B C:Int)(D:Bool)(E:List T) :gE 18 0 70 Try.f18 [] [.t (.agg [.int .i64 A, .int .i64 B, .int .i64 C, .list 5 D E])] ⟨[],[]⟩=R18 A B C D E:=by kernel_rfl
theorem eq18(A B C:Int)(D:Bool)(E:List T) :vr 18 0 [.t (.agg [.int .i64 A, .int .i64 B, .int .i64 C, .list 5 D E])] ⟨[],[]⟩=R18 A B C D E:=
 Eq.trans (call_eq Try.prog hint (fn:=Try.f18) (nt:=70) (T:=[]) [] rfl _ _ rfl rfl rfl rfl rfl) (eq18g A B C D E)
noncomputable def R32(L32_8:YL32_8)(J32_17:YJ32_17)(A:ByteArray) :Option Res:=callK (vr 52 0 [.t (.str A)] ⟨[],[]⟩) fun a b=>asTup a fun c=>consV c fun a d=>asT a fun c=>asL 3 c fun a f=>consV d fun c g=>asT c fun d=>asI .i64 d fun c=>consV g fun d h=>asT d fun g=>asI .i64 g fun d=>endV h <| endB b <|
(bif (!decide (d=0)) then
 some ((.tup [.t (.agg [.int .i64 0, .int .i64 0, .int .i64 0, .list 5 false []]), .t (.int .i64 c), .t (.int .i64 d)]),⟨[],[]⟩)
else
 callK (vr 53 0 [.t (.list 3 a f)] ⟨[],[]⟩) fun b c=>asT b fun a=>asL 1 a fun b d=>endB c <|
(bif (decide ((d.length:Int)=0)) then
 some ((.tup [.t (.agg [.int .i64 0, .int .i64 0, .int .i64 0, .list 5 false []]), .t (.int .i64 0), .t (.int .i64 6)]),⟨[],[]⟩)
else
 L32_8 (b) (d) (b) (d) ((d.length:Int)) (0) (0) (0) (0) (false) ([])))
theorem eq32g(KL32_8 KJ32_17:Env→St→Option Res)(A:ByteArray) :gE 32 0 92 Try.f32 (Ta32 KL32_8 KJ32_17) [.t (.str A)] ⟨[],[]⟩=R32 (WL32_8 KL32_8) (WJ32_17 KJ32_17) A:=by kernel_rfl
theorem eq32(A:ByteArray) :vr 32 0 [.t (.str A)] ⟨[],[]⟩=R32 L32_8 J32_17 A:=
 Eq.trans (call_eq Try.prog hint (fn:=Try.f32) (nt:=92) (T:=(Ta32 VL32_8 VJ32_17)) [PaL32_8,PaJ32_17] rfl _ _ rfl rfl rfl rfl rfl) (eq32g VL32_8 VJ32_17 A)
noncomputable def RL32_8(L32_8:YL32_8)(J32_17:YJ32_17)(lines8z:Bool)(lines8:List T)(A:Bool)(B:List T)(C D E F G:Int)(H:Bool)(I:List T) :Option Res:=
(bif (decide (D<C)) then
 needC (decide (0≤D)) fun _=>getT B (D).toNat fun a=>asL 3 a fun b c=>
(bif (decide (D=0)) then
 callK (vr 54 0 [.ptr 0 0 0, .t (.int .i64 1)] ⟨[(0, .var [.t (.list 3 b c), .t (.bool false)])],[]⟩) fun a d=>asT a fun f=>asA f fun a=>consT a fun f g=>asI .i64 f fun a=>consT g fun a f=>asS a fun g=>consT f fun a h=>asI .i64 a fun f=>endT h <| consB 0 d fun a f=>asVar a fun d=>consV d fun a h=>asT a fun d=>asL 3 d fun a i=>consV h fun d j=>asT d fun h=>asB h fun d=>endV j <| endB f <| callK (vr 54 0 [.ptr 0 0 0, .t (.int .i64 2)] ⟨[(0, .var [.t (.list 3 a i), .t (.bool (!decide ((g:ByteArray)=⟨#[99,111,100,101]⟩)))])],[]⟩) fun d f=>asT d fun a=>
 asA a fun d=>consT d fun a g=>asI .i64 a fun d=>consT g fun a d=>asS a fun g=>consT d fun a g=>asI .i64 a fun d=>endT g <| consB 0 f fun a g=>asVar a fun f=>consV f fun a h=>asT a fun f=>asL 3 f fun a i=>consV h fun f j=>asT f fun h=>asB h fun f=>endV j <| endB g <| callK (vr 54 0 [.ptr 0 0 0, .t (.int .i64 2)] (Z1 a i f)) fun g h=>asT g fun a=>asA a fun f=>consT f fun a g=>asI .i64 a fun f=>consT g fun a f=>asS a fun g=>consT f fun a g=>asI .i64 a fun f=>endT g <| consB 0 h fun a g=>asVar a fun h=>consV h fun a i=>asT a fun h=>asL 3 h fun a j=>
 consV i fun h k=>asT h fun i=>asB i fun h=>endV k <| endB g <| callK (vr 54 0 [.ptr 0 0 0, .t (.int .i64 2)] (Z1 a j h)) fun g i=>asT g fun a=>asA a fun g=>consT g fun a h=>asI .i64 a fun g=>consT h fun a g=>asS a fun h=>consT g fun a h=>asI .i64 a fun g=>endT h <| consB 0 i fun a h=>asVar a fun i=>consV i fun a j=>asT a fun i=>asL 3 i fun a k=>consV j fun i l=>asT i fun j=>asB j fun i=>endV l <| endB h <| J32_17 (lines8z) (lines8) (D) (A) (B) (C) (D) (d) (f) (g) (H) (I) (a) (k) (i)
else
 callK (vr 55 0 [.ptr 0 0 0] ⟨[(0, .var [.t (.list 3 b c), .t (.bool false)])],[]⟩) fun a d=>asT a fun b=>asA b fun a=>consT a fun b c=>asI .i64 b fun a=>consT c fun b f=>asI .i64 b fun c=>consT f fun b g=>asI .i64 b fun f=>consT g fun b h=>asI .i64 b fun g=>consT h fun b i=>asI .i64 b fun h=>endT i <| consB 0 d fun b i=>asVar b fun d=>consV d fun b j=>asT b fun d=>asL 3 d fun b k=>consV j fun d l=>asT d fun j=>asB j fun d=>endV l <| endB i <| needC (decide ((I.length+1)*(40+1)≤70368744177664) &&decide (40≤1048576)) fun _=>J32_17 (lines8z) (lines8) (D) (A) (B) (C) (D) (E) (F) (G) ((H || true)) ((I++([.agg [.int .i64 a, .int .i64 c, .int .i64 f, .int .i64 g, .int .i64 h]]:List T))) (b) (k) (d))
else
 callK (vr 18 0 [.t (.agg [.int .i64 E, .int .i64 F, .int .i64 G, .list 5 H I])] ⟨[],[]⟩) fun a b=>asT a fun c=>asI .i64 c fun a=>endB b <|
(bif (!decide (a=0)) then
 some ((.tup [.t (.agg [.int .i64 0, .int .i64 0, .int .i64 0, .list 5 false []]), .t (.int .i64 0), .t (.int .i64 a)]),⟨[],[]⟩)
else
 some ((.tup [.t (.agg [.int .i64 E, .int .i64 F, .int .i64 G, .list 5 H I]), .t (.int .i64 (lines8.length:Int)), .t (.int .i64 0)]),⟨[],[]⟩)))
theorem L32_8g(KL32_8 KJ32_17:Env→St→Option Res)(lines8z:Bool)(lines8:List T)(A:Bool)(B:List T)(C D E F G:Int)(H:Bool)(I:List T) :WL32_8 (fun e st=>gP 32 0 92 Try.f32 (Ta32 KL32_8 KJ32_17) (.lp::PaL32_8) e st) lines8z lines8 A B C D E F G H I=RL32_8 (WL32_8 KL32_8) (WJ32_17 KJ32_17) lines8z lines8 A B C D E F G H I:=by kernel_rfl
theorem L32_8_eq(lines8z:Bool)(lines8:List T)(A:Bool)(B:List T)(C D E F G:Int)(H:Bool)(I:List T) :L32_8 lines8z lines8 A B C D E F G H I=RL32_8 L32_8 J32_17 lines8z lines8 A B C D E F G H I:=
 (congrArg (fun k=>WL32_8 k lines8z lines8 A B C D E F G H I) (funext fun e=>funext fun st=>round_eq Try.prog hint (b:=(nav (List.reverse (.lp::PaL32_8)) (bodyOf Try.f32))) (fn:=Try.f32) (nt:=92) (T:=(Ta32 VL32_8 VJ32_17)) [PaL32_8,PaJ32_17] rfl PaL32_8 e st rfl rfl rfl)).trans (L32_8g VL32_8 VJ32_17 lines8z lines8 A B C D E F G H I)
noncomputable def RJ32_17(L32_8:YL32_8)(J32_17:YJ32_17)(lines8z:Bool)(lines8:List T)(i9:Int)(A:Bool)(B:List T)(C D E F G:Int)(H:Bool)(I:List T)(J:Bool)(K:List T)(L:Bool) :Option Res:=
(bif L then
 some ((.tup [.t (.agg [.int .i64 0, .int .i64 0, .int .i64 0, .list 5 false []]), .t (.int .i64 i9), .t (.int .i64 6)]),⟨[],[]⟩)
else
(bif (decide (0<(K.length:Int))) then
 some ((.tup [.t (.agg [.int .i64 0, .int .i64 0, .int .i64 0, .list 5 false []]), .t (.int .i64 i9), .t (.int .i64 6)]),⟨[],[]⟩)
else
 L32_8 (lines8z) (lines8) (A) (B) (C) ((IntKind.i64.wrap (D+1))) (E) (F) (G) (H) (I)))
theorem J32_17g(KL32_8 KJ32_17:Env→St→Option Res)(lines8z:Bool)(lines8:List T)(i9:Int)(A:Bool)(B:List T)(C D E F G:Int)(H:Bool)(I:List T)(J:Bool)(K:List T)(L:Bool) :WJ32_17 (fun e st=>gP 32 0 92 Try.f32 (Ta32 KL32_8 KJ32_17) PaJ32_17 e st) lines8z lines8 i9 A B C D E F G H I J K L=RJ32_17 (WL32_8 KL32_8) (WJ32_17 KJ32_17) lines8z lines8 i9 A B C D E F G H I J K L:=by kernel_rfl
theorem J32_17_eq(lines8z:Bool)(lines8:List T)(i9:Int)(A:Bool)(B:List T)(C D E F G:Int)(H:Bool)(I:List T)(J:Bool)(K:List T)(L:Bool) :J32_17 lines8z lines8 i9 A B C D E F G H I J K L=RJ32_17 L32_8 J32_17 lines8z lines8 i9 A B C D E F G H I J K L:=
 (congrArg (fun k=>WJ32_17 k lines8z lines8 i9 A B C D E F G H I J K L) (funext fun e=>funext fun st=>join_eq Try.prog hint (fn:=Try.f32) (nt:=92) (T:=(Ta32 VL32_8 VJ32_17)) [PaL32_8,PaJ32_17] rfl PaJ32_17 e st rfl)).trans (J32_17g VL32_8 VJ32_17 lines8z lines8 i9 A B C D E F G H I J K L)
noncomputable def R16(A B C D E:Int) :Option Res:=callK (vr 38 0 [.t (.int .i64 A)] ⟨[],[]⟩) fun a b=>asTup a fun c=>consV c fun a d=>asT a fun c=>asA c fun a=>consT a fun c f=>asS c fun a=>consT f fun a c=>asI .i64 a fun f=>consT c fun a g=>asI .i64 a fun c=>consT g fun a c=>asI .i64 a fun g=>endT c <| consV d fun a c=>asT a fun d=>asB d fun a=>endV c <| endB b <|
(bif (!decide (f=1)) then
 some ((.tup [.t (.int .i64 0), .t (.bool false)]),⟨[],[]⟩)
else
 some ((.tup [.t (.int .i64 B), .t (.bool true)]),⟨[],[]⟩))
theorem eq16g(A B C D E:Int) :gE 16 0 18 Try.f16 [] [.t (.agg [.int .i64 A, .int .i64 B, .int .i64 C, .int .i64 D, .int .i64 E])] ⟨[],[]⟩=R16 A B C D E:=by kernel_rfl
theorem eq16(A B C D E:Int) :vr 16 0 [.t (.agg [.int .i64 A, .int .i64 B, .int .i64 C, .int .i64 D, .int .i64 E])] ⟨[],[]⟩=R16 A B C D E:=
 Eq.trans (call_eq Try.prog hint (fn:=Try.f16) (nt:=18) (T:=[]) [] rfl _ _ rfl rfl rfl rfl rfl) (eq16g A B C D E)
noncomputable def R78(A B C:Int) :Option Res:=needC (decide (0≤(shrI .i64 C 6)) &&decide ((shrI .i64 C 6)<(2:Int))) fun _=>getT ([.int .u64 A, .int .u64 B]) ((0+((shrI .i64 C 6)).toNat*1)) fun a=>asI .u64 a fun b=>needC (decide (0≤(bitsI .and .i64 C 63))) fun _=>needC (decide (0≤(shrI .i64 C 6)) &&decide ((shrI .i64 C 6)<(2:Int))) fun _=>setT ([.int .u64 A, .int .u64 B]) ((0+((shrI .i64 C 6)).toNat*1)) (.int .u64 (bitsI .or .u64 b (shlI .u64 1 (bitsI .and .i64 C 63)))) fun a=>consT (((a.drop 0).take 2)) fun b c=>asI .u64 b fun a=>consT c fun b d=>
 asI .u64 b fun c=>endT d <| some ((.t (.agg [.int .u64 a, .int .u64 c])),⟨[],[]⟩)
theorem eq78g(A B C:Int) :gE 78 0 15 Try.f78 [] [.t (.agg [.int .u64 A, .int .u64 B]), .t (.int .i64 C)] ⟨[],[]⟩=R78 A B C:=by kernel_rfl
theorem eq78(A B C:Int) :vr 78 0 [.t (.agg [.int .u64 A, .int .u64 B]), .t (.int .i64 C)] ⟨[],[]⟩=R78 A B C:=
 Eq.trans (call_eq Try.prog hint (fn:=Try.f78) (nt:=15) (T:=[]) [] rfl _ _ rfl rfl rfl rfl rfl) (eq78g A B C)
noncomputable def R11(A B C D E F:Int) :Option Res:=callK (vr 38 0 [.t (.int .i64 A)] ⟨[],[]⟩) fun a b=>asTup a fun c=>consV c fun a d=>asT a fun c=>asA c fun a=>consT a fun c f=>asS c fun a=>consT f fun a c=>asI .i64 a fun f=>consT c fun a f=>asI .i64 a fun c=>consT f fun a c=>asI .i64 a fun f=>endT c <| consV d fun a c=>asT a fun d=>asB d fun a=>endV c <| endB b <|
(bif (!a) then
 some ((.t (.list 1 false [])),⟨[],[]⟩)
else
(bif (decide (A=0)) then
 some ((.t (.list 1 false [])),⟨[],[]⟩)
else
(bif (decide (A=10)) then
 some ((.t (.list 1 true [.int .i64 B])),⟨[],[]⟩)
else
(bif (decide (A=11)) then
 some ((.t (.list 1 true [.int .i64 (IntKind.i64.wrap (F+1)), .int .i64 D])),⟨[],[]⟩)
else
(bif (decide (A=12)) then
 some ((.t (.list 1 true [.int .i64 (IntKind.i64.wrap (F+1)), .int .i64 D])),⟨[],[]⟩)
else
 some ((.t (.list 1 true [.int .i64 (IntKind.i64.wrap (F+1))])),⟨[],[]⟩))))))
theorem eq11g(A B C D E F:Int) :gE 11 0 45 Try.f11 [] [.t (.agg [.int .i64 A, .int .i64 B, .int .i64 C, .int .i64 D, .int .i64 E]), .t (.int .i64 F)] ⟨[],[]⟩=R11 A B C D E F:=by kernel_rfl
theorem eq11(A B C D E F:Int) :vr 11 0 [.t (.agg [.int .i64 A, .int .i64 B, .int .i64 C, .int .i64 D, .int .i64 E]), .t (.int .i64 F)] ⟨[],[]⟩=R11 A B C D E F:=
 Eq.trans (call_eq Try.prog hint (fn:=Try.f11) (nt:=45) (T:=[]) [] rfl _ _ rfl rfl rfl rfl rfl) (eq11g A B C D E F)
noncomputable def R77(A B C D:Int) :Option Res:=some ((.t (.agg [.int .u64 (bitsI .and .u64 A C), .int .u64 (bitsI .and .u64 B D)])),⟨[],[]⟩)
theorem eq77g(A B C D:Int) :gE 77 0 16 Try.f77 [] [.t (.agg [.int .u64 A, .int .u64 B]), .t (.agg [.int .u64 C, .int .u64 D])] ⟨[],[]⟩=R77 A B C D:=by kernel_rfl
theorem eq77(A B C D:Int) :vr 77 0 [.t (.agg [.int .u64 A, .int .u64 B]), .t (.agg [.int .u64 C, .int .u64 D])] ⟨[],[]⟩=R77 A B C D:=
 Eq.trans (call_eq Try.prog hint (fn:=Try.f77) (nt:=16) (T:=[]) [] rfl _ _ rfl rfl rfl rfl rfl) (eq77g A B C D)
noncomputable def R76(J76_4:YJ76_4)(A B C D E F:Int)(G:Bool)(H:List T)(I:Bool)(J:List T)(K:Bool)(L:List T)(M:Bool)(N:List T) :Option Res:=needC (decide (0≤A) &&decide (A<(L.length:Int))) fun _=>getT L ((A).toNat) fun a=>asB a fun b=>
(bif b then
 needC (decide (0≤A) &&decide (A<(J.length:Int))) fun _=>getT J ((A).toNat) fun a=>asA a fun b=>consT b fun a c=>asI .u64 a fun b=>consT c fun a d=>asI .u64 a fun c=>endT d <| callK (vr 77 0 [.t (.agg [.int .u64 B, .int .u64 C]), .t (.agg [.int .u64 b, .int .u64 c])] ⟨[],[]⟩) fun a d=>asT a fun b=>asA b fun a=>consT a fun b c=>asI .u64 b fun a=>consT c fun b f=>asI .u64 b fun c=>endT f <| endB d <| needC (decide (0≤A) &&decide (A<(J.length:Int))) fun _=>getT J ((A).toNat) fun b=>asA b fun d=>consT d fun b f=>asI .u64 b fun d=>consT f fun b g=>
 asI .u64 b fun f=>endT g <|
(bif (decide (a=d) &&(decide (c=f) &&true)) then
 some ((.tup []),⟨[(0, .var [.ptr 1 0 0]),(1, .var [.t (.int .i64 D), .t (.int .i64 E), .t (.int .i64 F), .t (.list 5 G H), .buf 2, .buf 3]),(2, .arr true 2 I J),(3, .arr true 1 K L),(4, .var [.buf 5]),(5, .arr true 1 M N)],[500,501,502,503,504,505]⟩)
else
 J76_4 (A) (D) (E) (F) (G) (H) (I) (J) (K) (L) (M) (N) ([.int .u64 a, .int .u64 c]))
else
 J76_4 (A) (D) (E) (F) (G) (H) (I) (J) (K) (L) (M) (N) ([.int .u64 B, .int .u64 C]))
theorem eq76g(KJ76_4:Env→St→Option Res)(A B C D E F:Int)(G:Bool)(H:List T)(I:Bool)(J:List T)(K:Bool)(L:List T)(M:Bool)(N:List T) :gE 76 0 48 Try.f76 (Ta76 KJ76_4) [.t (.int .i64 A), .t (.agg [.int .u64 B, .int .u64 C]), .ptr 0 0 0, .ptr 4 0 0] ⟨[(0, .var [.ptr 1 0 0]),(1, .var [.t (.int .i64 D), .t (.int .i64 E), .t (.int .i64 F), .t (.list 5 G H), .buf 2, .buf 3]),(2, .arr true 2 I J),(3, .arr true 1 K L),(4, .var [.buf 5]),(5, .arr true 1 M N)],[]⟩=R76 (WJ76_4 KJ76_4) A B C D E F G H I J K L M N:=by kernel_rfl
theorem eq76(A B C D E F:Int)(G:Bool)(H:List T)(I:Bool)(J:List T)(K:Bool)(L:List T)(M:Bool)(N:List T) :vr 76 0 [.t (.int .i64 A), .t (.agg [.int .u64 B, .int .u64 C]), .ptr 0 0 0, .ptr 4 0 0] ⟨[(0, .var [.ptr 1 0 0]),(1, .var [.t (.int .i64 D), .t (.int .i64 E), .t (.int .i64 F), .t (.list 5 G H), .buf 2, .buf 3]),(2, .arr true 2 I J),(3, .arr true 1 K L),(4, .var [.buf 5]),(5, .arr true 1 M N)],[]⟩=R76 J76_4 A B C D E F G H I J K L M N:=
 Eq.trans (call_eq Try.prog hint (fn:=Try.f76) (nt:=48) (T:=(Ta76 VJ76_4)) [PaJ76_4] rfl _ _ rfl rfl rfl rfl rfl) (eq76g VJ76_4 A B C D E F G H I J K L M N)
noncomputable def RJ76_4(J76_4:YJ76_4)(k0 A B C:Int)(D:Bool)(E:List T)(F:Bool)(G:List T)(H:Bool)(I:List T)(J:Bool)(K L:List T) :Option Res:=consT (((L.drop 0).take 2)) fun a b=>asI .u64 a fun c=>consT b fun a d=>asI .u64 a fun b=>endT d <| needC (decide (0≤k0) &&decide (k0<(I.length:Int))) fun _=>needC (H &&true) fun _=>setT I ((k0).toNat) (.bool true) fun a=>needC (decide (0≤k0) &&decide (k0<(G.length:Int))) fun _=>needC (F &&true) fun _=>setT G ((k0).toNat) (.agg [.int .u64 c, .int .u64 b]) fun d=>needC (decide ((K.length+1)*(8+1)≤70368744177664) &&decide (8≤1048576)) fun _=>
 some ((.tup []),⟨[(0, .var [.ptr 1 0 0]),(1, .var [.t (.int .i64 A), .t (.int .i64 B), .t (.int .i64 C), .t (.list 5 D E), .buf 2, .buf 3]),(2, .arr true 2 F d),(3, .arr true 1 H a),(4, .var [.buf 500]),(500, .arr true 1 (J || true) (K++([.int .i64 k0]:List T)))],[500,501,502,503,504,505]⟩)
theorem J76_4g(KJ76_4:Env→St→Option Res)(k0 A B C:Int)(D:Bool)(E:List T)(F:Bool)(G:List T)(H:Bool)(I:List T)(J:Bool)(K L:List T) :WJ76_4 (fun e st=>gP 76 0 48 Try.f76 (Ta76 KJ76_4) PaJ76_4 e st) k0 A B C D E F G H I J K L=RJ76_4 (WJ76_4 KJ76_4) k0 A B C D E F G H I J K L:=by kernel_rfl
theorem J76_4_eq(k0 A B C:Int)(D:Bool)(E:List T)(F:Bool)(G:List T)(H:Bool)(I:List T)(J:Bool)(K L:List T) :J76_4 k0 A B C D E F G H I J K L=RJ76_4 J76_4 k0 A B C D E F G H I J K L:=
 (congrArg (fun k=>WJ76_4 k k0 A B C D E F G H I J K L) (funext fun e=>funext fun st=>join_eq Try.prog hint (fn:=Try.f76) (nt:=48) (T:=(Ta76 VJ76_4)) [PaJ76_4] rfl PaJ76_4 e st rfl)).trans (J76_4g VJ76_4 k0 A B C D E F G H I J K L)
noncomputable def R56(L56_5:YL56_5)(J56_12:YJ56_12)(L56_13:YL56_13)(A B C:Int)(D:Bool)(E:List T) :Option Res:=needC (decide (0≤(E.length:Int)) &&decide ((E.length:Int)≤(E.length:Int)) &&decide ((E.length:Int)*(16+1)≤70368744177664)) fun _=>needC (decide (0≤(E.length:Int)) &&decide ((E.length:Int)≤(E.length:Int)) &&decide ((E.length:Int)*(1+1)≤70368744177664)) fun _=>needC (decide (0≤0) &&decide ((0:Int)<(((List.replicate ((E.length:Int)).toNat ((.bool false):T))).length:Int))) fun _=>setT ((List.replicate ((E.length:Int)).toNat ((.bool false):T))) (((0:Int)).toNat) (.bool true) fun a=>
 L56_5 (A) (B) (C) (D) (E) (A) (B) (C) (D) (E) (true) ((List.replicate ((E.length:Int)).toNat ((.agg [.int .u64 0, .int .u64 0]):T))) (true) (a) (true) ([.int .i64 0])
theorem eq56g(KL56_5 KJ56_12 KL56_13:Env→St→Option Res)(A B C:Int)(D:Bool)(E:List T) :gE 56 0 82 Try.f56 (Ta56 KL56_5 KJ56_12 KL56_13) [.t (.agg [.int .i64 A, .int .i64 B, .int .i64 C, .list 5 D E])] ⟨[],[]⟩=R56 (WL56_5 KL56_5) (WJ56_12 KJ56_12) (WL56_13 KL56_13) A B C D E:=by kernel_rfl
theorem eq56(A B C:Int)(D:Bool)(E:List T) :vr 56 0 [.t (.agg [.int .i64 A, .int .i64 B, .int .i64 C, .list 5 D E])] ⟨[],[]⟩=R56 L56_5 J56_12 L56_13 A B C D E:=
 Eq.trans (call_eq Try.prog hint (fn:=Try.f56) (nt:=82) (T:=(Ta56 VL56_5 VJ56_12 VL56_13)) [PaL56_5,PaJ56_12,PaL56_13] rfl _ _ rfl rfl rfl rfl rfl) (eq56g VL56_5 VJ56_12 VL56_13 A B C D E)
end Go.Proofs.Ytgkdkjjohknfpaa.VM
