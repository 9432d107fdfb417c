/- The equations of the functions, as the small evaluator gives them (printed by vgen.py). Conditions: none. -/
import Derived.Test.YtifkgdmiojnllaaVmD
import Derived.Test.YtifkgdmiojnllaaProg
set_option linter.all false
set_option linter.all false
namespace Go.Proofs.Ytifkgdmiojnllaa.VM
open Go AM
def normTab :List (Nat×Nat×List (Nat×Norm)):=[
 (53,0,[(2,{slots:=[(0,0),(3,0)],cells:=[]})]),
 (77,0,[(4,{slots:=[(0,0),(2,0),(23,0),(24,0)],cells:=[]})]),
 (28,0,[(6,{slots:=[(0,0),(5,5),(6,0),(7,0)],cells:=[]}),(21,{slots:=[(0,0),(5,0),(6,0),(7,0),(8,0)],cells:=[]}),(26,{slots:=[(0,0),(5,0),(7,0),(8,0),(9,0)],cells:=[]}),(28,{slots:=[(0,0),(5,0)],cells:=[]})]),
 (55,0,[(2,{slots:=[(0,0),(1,0),(7,0),(8,0)],cells:=[]})]),
 (29,0,[(2,{slots:=[(0,0),(3,3)],cells:=[]})]),
 (58,0,[(2,{slots:=[(0,0),(1,0),(7,0),(8,0)],cells:=[]})]),
 (31,0,[(6,{slots:=[(0,0),(2,0),(4,0)],cells:=[]}),(7,{slots:=[(0,0),(2,0),(4,0),(26,0),(27,0)],cells:=[]})]),
 (37,0,[(4,{slots:=[(2,0),(5,0),(6,0),(7,0),(26,0),(27,0)],cells:=[]})]),
 (68,0,[(2,{slots:=[(0,0),(1,0),(7,0),(8,0)],cells:=[]})]),
 (10,0,[(8,{slots:=[(2,0),(8,0),(30,0),(31,0),(32,0)],cells:=[(2,3,7)]}),(17,{slots:=[(2,0),(8,0),(9,0),(11,0),(30,0),(31,0),(32,0)],cells:=[]})]),
 (79,0,[(5,{slots:=[(0,0),(4,0),(25,0),(26,0)],cells:=[]})]),
 (80,0,[(4,{slots:=[(0,0),(19,0),(20,0)],cells:=[]})]),
 (32,0,[(6,{slots:=[(0,0),(5,5),(6,0),(7,0)],cells:=[]}),(12,{slots:=[(0,0),(5,0),(6,0),(7,0)],cells:=[]}),(15,{slots:=[(0,0),(5,0),(6,0),(7,0),(8,0),(9,0)],cells:=[]}),(22,{slots:=[(0,0),(5,0),(7,0),(9,0),(10,0)],cells:=[]})]),
 (33,0,[(5,{slots:=[(3,0),(10,0),(11,0),(12,0)],cells:=[]})]),
 (66,0,[(2,{slots:=[(0,0),(6,0)],cells:=[]})]),
 (34,0,[(8,{slots:=[(0,0),(2,0),(4,0),(6,0),(7,0),(45,0),(46,0)],cells:=[]}),(27,{slots:=[(0,0),(2,0),(4,0),(6,0),(7,0),(9,0),(45,0),(46,0)],cells:=[]})]),
 (50,0,[(7,{slots:=[(2,0),(3,0),(6,0),(7,0),(8,0),(22,0)],cells:=[]}),(12,{slots:=[(2,0),(3,0),(6,0),(7,0),(8,0),(9,0),(10,0),(22,0)],cells:=[]}),(23,{slots:=[(2,0),(3,0),(6,0),(7,0),(8,0),(9,0),(11,0),(22,0)],cells:=[]})]),
 (27,0,[(3,{slots:=[(1,0),(3,0),(50,0),(51,0),(52,0)],cells:=[]})]),
 (11,0,[(12,{slots:=[(2,0),(8,0),(10,0),(88,0),(89,0),(90,0)],cells:=[(10,3,7)]})]),
 (12,0,[(4,{slots:=[(2,0),(3,0),(36,0),(37,0)],cells:=[]})])]
def callTab :List (Nat×Nat×List (Nat×Nat×CallH)):=[
 (10,0,[(12,2,{w:=0,own:=[],pre:=[],out:=(.one (.t (.agg [.int .i64, .str, .int .i64]))),blks:=[(0, .var [.t (.list 3), .t .bool])]}),(13,1,{w:=0,own:=[],pre:=[],out:=(.one (.t (.agg [.int .i64, .str, .int .i64]))),blks:=[(0, .var [.t (.list 3), .t .bool])]}),(14,1,{w:=0,own:=[],pre:=[],out:=(.one (.t (.agg [.int .i64, .str, .int .i64]))),blks:=[(0, .var [.t (.list 3), .t .bool])]}),(15,1,{w:=0,own:=[],pre:=[],out:=(.one (.t (.agg [.int .i64, .str, .int .i64]))),blks:=[(0, .var [.t (.list 3), .t .bool])]}),(16,3,{w:=0,own:=[],pre:=[],out:=(.one (.t (.agg [.int .i64, .int .i64, .int .i64, .int .i64, .int .i64]))),blks:=[(0, .var [.t (.list 3), .t .bool])]})]),
 (14,0,[(2,18,{w:=0,own:=[],pre:=[],out:=(.one (.t (.one .bool))),blks:=[(0, .var [.t (.int .i64), .t (.int .i64), .t (.int .i64), .t (.list 5)])]})]),
 (31,0,[(1,1,{w:=0,own:=[],pre:=[],out:=(.one (.t (.agg [.int .i64, .str, .int .i64]))),blks:=[(0, .var [.t (.list 3), .t .bool])]}),(2,2,{w:=0,own:=[],pre:=[],out:=(.one (.t (.one (.int .i64)))),blks:=[(0, .var [.t .str])]}),(6,0,{w:=0,own:=[],pre:=[],out:=(.one (.agg [.ptr 0 0 1, .ptr 0 0 2, .ptr 0 0 3])),blks:=[(0, .var [.t (.int .i64), .t (.int .i64), .t (.int .i64), .t (.int .i64), .t (.int .i64)])]}),(12,2,{w:=0,own:=[],pre:=[],out:=(.one (.t (.one (.int .i64)))),blks:=[(0, .var [.t (.list 3), .t .bool])]}),(14,2,{w:=0,own:=[],pre:=[],out:=(.one (.t (.one (.int .i64)))),blks:=[(0, .var [.t (.list 3), .t .bool])]}),(16,2,{w:=0,own:=[],pre:=[],out:=(.one (.t (.agg [.int .i64, .str, .int .i64]))),blks:=[(0, .var [.t (.list 3), .t .bool])]}),(18,1,{w:=0,own:=[],pre:=[],out:=(.one (.t (.one (.int .i64)))),blks:=[(0, .var [.t (.list 3), .t .bool])]})]),
 (35,0,[(1,2,{w:=0,own:=[],pre:=[],out:=(.one (.t (.one (.int .i64)))),blks:=[(0, .var [.t (.int .i64), .t (.int .i64), .t (.int .i64), .t (.list 5)])]})]),
 (37,0,[(3,0,{w:=0,own:=[],pre:=[],out:=(.one (.agg [.ptr 0 0 1, .ptr 0 0 2, .ptr 0 0 3])),blks:=[(0, .var [.t (.int .i64), .t (.int .i64), .t (.int .i64), .t (.int .i64), .t (.int .i64)])]})]),
 (58,0,[(4,5,{w:=0,own:=[],pre:=[],out:=(.one (.t (.one .bool))),blks:=[(0, .var [.t .str])]})]),
 (61,0,[(1,1,{w:=0,own:=[],pre:=[],out:=(.one (.t (.agg [.int .i64, .str, .int .i64]))),blks:=[(0, .var [.t (.list 3), .t .bool])]})]),
 (62,0,[(2,1,{w:=0,own:=[],pre:=[],out:=(.one (.t (.agg [.int .i64, .str, .int .i64]))),blks:=[(0, .var [.t (.list 3), .t .bool])]}),(3,1,{w:=0,own:=[],pre:=[],out:=(.one (.t (.agg [.int .i64, .str, .int .i64]))),blks:=[(0, .var [.t (.list 3), .t .bool])]}),(4,1,{w:=0,own:=[],pre:=[],out:=(.one (.t (.agg [.int .i64, .str, .int .i64]))),blks:=[(0, .var [.t (.list 3), .t .bool])]})]),
 (68,0,[(4,5,{w:=0,own:=[],pre:=[],out:=(.one (.t (.one .bool))),blks:=[(0, .var [.t (.int .i64), .t (.int .i64), .t (.int .i64), .t (.list 5)])]})])]
def unrollTab :List (Nat×Nat×Nat):=[(15,3,4),(18,16,4),(21,6,4),(21,16,4),(31,7,4),(37,4,4)]
def ownTab :List (Nat×Nat×List Nat):=[]
def eqtTab :List (Nat×List Value):=[(34,[.int .i64 0, .int .i64 0, .int .i64 0, .int .i64 0, .int .i64 0])]
def ovSet :List (Nat×OvF):=[(75,ovIdx)]
def cutTab :List (Nat×Nat×Nat):=[(33,3,0)]
def hint :Hint:=mkHint eqtTab normTab callTab ownTab unrollTab ovSet cutTab
noncomputable abbrev gE(f w nt:Nat)(fn:Func)(T:Tab)(args:List V)(st:St) :Option Res:=codeT Try.prog hint f w nt T [] (resKV Try.prog fn (hint.own f w)) (nrm hint f w (bodyOf fn) (envV args 0) st).1 (nrm hint f w (bodyOf fn) (envV args 0) st).2 (bodyOf fn)
noncomputable abbrev gP(f w nt:Nat)(fn:Func)(T:Tab)(p:List Stp)(e:Env)(st:St) :Option Res:=codeT Try.prog hint f w nt T p (ctxT Try.prog hint f w nt T [] (List.reverse p) (bodyOf fn) (resKV Try.prog fn (hint.own f w))) e st (nav (List.reverse p) (bodyOf fn))
noncomputable def vr(f w:Nat)(args:List V)(st:St) :Option (V×St):=vrun Try.prog hint f w args st
abbrev YL53_2 :=ByteArray→Int→Option Res
def PaL53_2 :List Stp:=[.blk, .fst, .snd, .snd]
def Ta53(KL53_2:Env→St→Option Res) :Tab:=[(PaL53_2,KL53_2)]
def WL53_2(k:Env→St→Option Res)(s0:ByteArray)(n3:Int) :Option Res:=k [(0, .t (.str s0)),(3, .t (.int .i64 n3))] ⟨[],[]⟩
noncomputable def VL53_2 :Env→St→Option Res:=fun e st=>atV Try.prog hint 53 0 Try.f53 25 (List.reverse PaL53_2) e st
noncomputable def L53_2(s0:ByteArray)(n3:Int) :Option Res:=WL53_2 VL53_2 s0 n3
abbrev YL77_4 :=ByteArray→Int→Int→Int→Option Res
def PaL77_4 :List Stp:=[.blk, .snd, .fst, .snd, .snd]
def Ta77(KL77_4:Env→St→Option Res) :Tab:=[(PaL77_4,KL77_4)]
def WL77_4(k:Env→St→Option Res)(s0:ByteArray)(n2 A B:Int) :Option Res:=k [(0, .t (.str s0)),(2, .t (.int .i64 n2)),(23, .t (.int .i64 A)),(24, .t (.int .i64 B))] ⟨[],[]⟩
noncomputable def VL77_4 :Env→St→Option Res:=fun e st=>atV Try.prog hint 77 0 Try.f77 42 (List.reverse PaL77_4) e st
noncomputable def L77_4(s0:ByteArray)(n2 A B:Int) :Option Res:=WL77_4 VL77_4 s0 n2 A B
abbrev YL28_6 :=ByteArray→Bool→Int→Bool→(List T)→Option Res
abbrev YJ28_28 :=ByteArray→Bool→(List T)→Option Res
abbrev YJ28_21 :=ByteArray→Bool→Int→Int→Bool→(List T)→Option Res
abbrev YJ28_26 :=ByteArray→Int→Int→Bool→(List T)→Int→ByteArray→Int→Option Res
def PaL28_6 :List Stp:=[.blk, .fst, .snd, .snd, .snd, .snd, .snd, .blk, .snd]
def PaJ28_28 :List Stp:=[.snd, .snd, .snd, .snd, .snd, .snd, .blk, .snd]
def PaJ28_21 :List Stp:=[.snd, .snd, .blk, .snd, .lp, .blk, .fst, .snd, .snd, .snd, .snd, .snd, .blk, .snd]
def PaJ28_26 :List Stp:=[.snd, .snd, .snd, .snd, .snd, .blk, .snd, .lp, .blk, .fst, .snd, .snd, .snd, .snd, .snd, .blk, .snd]
def Ta28(KL28_6 KJ28_28 KJ28_21 KJ28_26:Env→St→Option Res) :Tab:=[(PaL28_6,KL28_6),(PaJ28_28,KJ28_28),(PaJ28_21,KJ28_21),(PaJ28_26,KJ28_26)]
def WL28_6(k:Env→St→Option Res)(s0:ByteArray)(ends6:Bool)(at7:Int)(A:Bool)(B:List T) :Option Res:=k [(0, .t (.str s0)),(5, .buf 8),(6, .t (.bool ends6)),(7, .t (.int .i64 at7))] ⟨[(8, .arr true 3 A B)],[]⟩
noncomputable def VL28_6 :Env→St→Option Res:=fun e st=>atV Try.prog hint 28 0 Try.f28 82 (List.reverse PaL28_6) e st
noncomputable def L28_6(s0:ByteArray)(ends6:Bool)(at7:Int)(A:Bool)(B:List T) :Option Res:=WL28_6 VL28_6 s0 ends6 at7 A B
def WJ28_28(k:Env→St→Option Res)(s0:ByteArray)(A:Bool)(B:List T) :Option Res:=k [(0, .t (.str s0)),(5, .buf 8)] ⟨[(8, .arr true 3 A B)],[]⟩
noncomputable def VJ28_28 :Env→St→Option Res:=fun e st=>atV Try.prog hint 28 0 Try.f28 82 (List.reverse PaJ28_28) e st
noncomputable def J28_28(s0:ByteArray)(A:Bool)(B:List T) :Option Res:=WJ28_28 VJ28_28 s0 A B
def WJ28_21(k:Env→St→Option Res)(s0:ByteArray)(ends6:Bool)(at7 n8:Int)(A:Bool)(B:List T) :Option Res:=k [(0, .t (.str s0)),(5, .buf 8),(6, .t (.bool ends6)),(7, .t (.int .i64 at7)),(8, .t (.int .i64 n8))] ⟨[(8, .arr true 3 A B)],[]⟩
noncomputable def VJ28_21 :Env→St→Option Res:=fun e st=>atV Try.prog hint 28 0 Try.f28 82 (List.reverse PaJ28_21) e st
noncomputable def J28_21(s0:ByteArray)(ends6:Bool)(at7 n8:Int)(A:Bool)(B:List T) :Option Res:=WJ28_21 VJ28_21 s0 ends6 at7 n8 A B
def WJ28_26(k:Env→St→Option Res)(s0:ByteArray)(at7 n8:Int)(A:Bool)(B:List T)(C:Int)(D:ByteArray)(E:Int) :Option Res:=k [(0, .t (.str s0)),(5, .buf 8),(7, .t (.int .i64 at7)),(8, .t (.int .i64 n8)),(9, .ptr 9 0 0)] ⟨[(8, .arr true 3 A B),(9, .var [.t (.int .i64 C), .t (.str D), .t (.int .i64 E)])],[]⟩
noncomputable def VJ28_26 :Env→St→Option Res:=fun e st=>atV Try.prog hint 28 0 Try.f28 82 (List.reverse PaJ28_26) e st
noncomputable def J28_26(s0:ByteArray)(at7 n8:Int)(A:Bool)(B:List T)(C:Int)(D:ByteArray)(E:Int) :Option Res:=WJ28_26 VJ28_26 s0 at7 n8 A B C D E
abbrev YL55_2 :=Bool→(List T)→Int→Int→Option Res
def PaL55_2 :List Stp:=[.blk, .snd, .fst, .snd]
def Ta55(KL55_2:Env→St→Option Res) :Tab:=[(PaL55_2,KL55_2)]
def WL55_2(k:Env→St→Option Res)(s0z:Bool)(s0:List T)(A B:Int) :Option Res:=k [(0, .t (.list 3 s0z s0)),(1, .fn 56 [] []),(7, .t (.int .i64 A)),(8, .t (.int .i64 B))] ⟨[],[]⟩
noncomputable def VL55_2 :Env→St→Option Res:=fun e st=>atV Try.prog hint 55 0 Try.f55 19 (List.reverse PaL55_2) e st
noncomputable def L55_2(s0z:Bool)(s0:List T)(A B:Int) :Option Res:=WL55_2 VL55_2 s0z s0 A B
abbrev YL29_2 :=Bool→(List T)→Bool→(List T)→Option Res
def PaL29_2 :List Stp:=[.blk, .fst, .snd, .snd]
def Ta29(KL29_2:Env→St→Option Res) :Tab:=[(PaL29_2,KL29_2)]
def WL29_2(k:Env→St→Option Res)(l0z:Bool)(l0:List T)(A:Bool)(B:List T) :Option Res:=k [(0, .t (.list 3 l0z l0)),(3, .buf 8)] ⟨[(8, .arr true 1 A B)],[]⟩
noncomputable def VL29_2 :Env→St→Option Res:=fun e st=>atV Try.prog hint 29 0 Try.f29 35 (List.reverse PaL29_2) e st
noncomputable def L29_2(l0z:Bool)(l0:List T)(A:Bool)(B:List T) :Option Res:=WL29_2 VL29_2 l0z l0 A B
abbrev YL58_2 :=Bool→(List T)→Int→Int→ByteArray→Option Res
def PaL58_2 :List Stp:=[.blk, .snd, .fst, .snd]
def Ta58(KL58_2:Env→St→Option Res) :Tab:=[(PaL58_2,KL58_2)]
def WL58_2(k:Env→St→Option Res)(s0z:Bool)(s0:List T)(A B:Int)(C:ByteArray) :Option Res:=k [(0, .t (.list 4 s0z s0)),(1, .fn 60 [] [.ptr 0 0 0]),(7, .t (.int .i64 A)),(8, .t (.int .i64 B))] ⟨[(0, .var [.t (.str C)])],[]⟩
noncomputable def VL58_2 :Env→St→Option Res:=fun e st=>atV Try.prog hint 58 0 Try.f58 19 (List.reverse PaL58_2) e st
noncomputable def L58_2(s0z:Bool)(s0:List T)(A B:Int)(C:ByteArray) :Option Res:=WL58_2 VL58_2 s0z s0 A B C
abbrev YJ31_6 :=Bool→(List T)→Bool→Int→Int→Int→Int→Int→ByteArray→Int→Int→Int→Option Res
def PaJ31_6 :List Stp:=[.snd, .snd, .snd, .snd, .snd]
def Ta31(KJ31_6:Env→St→Option Res) :Tab:=[(PaJ31_6,KJ31_6)]
def WJ31_6(k:Env→St→Option Res)(A:Bool)(B:List T)(C:Bool)(D E F G H:Int)(I:ByteArray)(J K L:Int) :Option Res:=k [(0, .ptr 0 0 0),(2, .ptr 8 0 0),(4, .ptr 9 0 0)] ⟨[(0, .var [.t (.list 3 A B), .t (.bool C)]),(8, .var [.t (.int .i64 D), .t (.int .i64 E), .t (.int .i64 F), .t (.int .i64 G), .t (.int .i64 H)]),(9, .var [.t (.str I), .t (.int .i64 J), .t (.int .i64 K), .t (.int .i64 L)])],[]⟩
noncomputable def VJ31_6 :Env→St→Option Res:=fun e st=>atV Try.prog hint 31 0 Try.f31 62 (List.reverse PaJ31_6) e st
noncomputable def J31_6(A:Bool)(B:List T)(C:Bool)(D E F G H:Int)(I:ByteArray)(J K L:Int) :Option Res:=WJ31_6 VJ31_6 A B C D E F G H I J K L
abbrev YL68_2 :=Bool→(List T)→Int→Int→Int→Int→Int→Bool→(List T)→Option Res
def PaL68_2 :List Stp:=[.blk, .snd, .fst, .snd]
def Ta68(KL68_2:Env→St→Option Res) :Tab:=[(PaL68_2,KL68_2)]
def WL68_2(k:Env→St→Option Res)(s0z:Bool)(s0:List T)(A B C D E:Int)(F:Bool)(G:List T) :Option Res:=k [(0, .t (.list 5 s0z s0)),(1, .fn 36 [] [.ptr 0 0 0]),(7, .t (.int .i64 A)),(8, .t (.int .i64 B))] ⟨[(0, .var [.t (.int .i64 C), .t (.int .i64 D), .t (.int .i64 E), .t (.list 5 F G)])],[]⟩
noncomputable def VL68_2 :Env→St→Option Res:=fun e st=>atV Try.prog hint 68 0 Try.f68 19 (List.reverse PaL68_2) e st
noncomputable def L68_2(s0z:Bool)(s0:List T)(A B C D E:Int)(F:Bool)(G:List T) :Option Res:=WL68_2 VL68_2 s0z s0 A B C D E F G
abbrev YL10_8 :=Bool→(List T)→Bool→(List T)→Int→Int→Int→Int→Int→Bool→(List T)→Option Res
abbrev YJ10_17 :=Bool→(List T)→Int→Bool→(List T)→Int→Int→Int→Int→Int→Bool→(List T)→Bool→(List T)→Bool→Option Res
def PaL10_8 :List Stp:=[.blk, .snd, .fst, .snd, .snd, .snd, .snd, .snd]
def PaJ10_17 :List Stp:=[.snd, .snd, .snd, .blk, .fst, .snd, .snd, .lp, .blk, .snd, .fst, .snd, .snd, .snd, .snd, .snd]
def Ta10(KL10_8 KJ10_17:Env→St→Option Res) :Tab:=[(PaL10_8,KL10_8),(PaJ10_17,KJ10_17)]
def WL10_8(k:Env→St→Option Res)(lines8z:Bool)(lines8:List T)(A:Bool)(B:List T)(C D E F G:Int)(H:Bool)(I:List T) :Option Res:=k [(2, .ptr 8 0 0),(8, .t (.list 1 lines8z lines8)),(30, .t (.list 1 A B)),(31, .t (.int .i64 C)),(32, .t (.int .i64 D))] ⟨[(8, .var [.t (.int .i64 E), .t (.int .i64 F), .t (.int .i64 G), .buf 9]),(9, .arr true 5 H I)],[]⟩
noncomputable def VL10_8 :Env→St→Option Res:=fun e st=>atV Try.prog hint 10 0 Try.f10 92 (List.reverse PaL10_8) e st
noncomputable def L10_8(lines8z:Bool)(lines8:List T)(A:Bool)(B:List T)(C D E F G:Int)(H:Bool)(I:List T) :Option Res:=WL10_8 VL10_8 lines8z lines8 A B C D E F G H I
def WJ10_17(k:Env→St→Option Res)(lines8z:Bool)(lines8:List T)(i9:Int)(A:Bool)(B:List T)(C D E F G:Int)(H:Bool)(I:List T)(J:Bool)(K:List T)(L:Bool) :Option Res:=k [(2, .ptr 8 0 0),(8, .t (.list 1 lines8z lines8)),(9, .t (.int .i64 i9)),(11, .ptr 10 0 0),(30, .t (.list 1 A B)),(31, .t (.int .i64 C)),(32, .t (.int .i64 D))] ⟨[(8, .var [.t (.int .i64 E), .t (.int .i64 F), .t (.int .i64 G), .buf 9]),(9, .arr true 5 H I),(10, .var [.t (.list 3 J K), .t (.bool L)])],[]⟩
noncomputable def VJ10_17 :Env→St→Option Res:=fun e st=>atV Try.prog hint 10 0 Try.f10 92 (List.reverse PaJ10_17) e st
noncomputable def J10_17(lines8z:Bool)(lines8:List T)(i9:Int)(A:Bool)(B:List T)(C D E F G:Int)(H:Bool)(I:List T)(J:Bool)(K:List T)(L:Bool) :Option Res:=WJ10_17 VJ10_17 lines8z lines8 i9 A B C D E F G H I J K L
abbrev YL79_5 :=ByteArray→Int→Int→Int→Option Res
def PaL79_5 :List Stp:=[.blk, .snd, .fst, .snd, .snd, .snd]
def Ta79(KL79_5:Env→St→Option Res) :Tab:=[(PaL79_5,KL79_5)]
def WL79_5(k:Env→St→Option Res)(s0:ByteArray)(n4 A B:Int) :Option Res:=k [(0, .t (.str s0)),(4, .t (.int .i64 n4)),(25, .t (.int .i64 A)),(26, .t (.int .i64 B))] ⟨[],[]⟩
noncomputable def VL79_5 :Env→St→Option Res:=fun e st=>atV Try.prog hint 79 0 Try.f79 44 (List.reverse PaL79_5) e st
noncomputable def L79_5(s0:ByteArray)(n4 A B:Int) :Option Res:=WL79_5 VL79_5 s0 n4 A B
abbrev YL80_4 :=ByteArray→Int→Int→Option Res
def PaL80_4 :List Stp:=[.blk, .snd, .fst, .snd, .snd]
def Ta80(KL80_4:Env→St→Option Res) :Tab:=[(PaL80_4,KL80_4)]
def WL80_4(k:Env→St→Option Res)(s0:ByteArray)(A B:Int) :Option Res:=k [(0, .t (.str s0)),(19, .t (.int .i64 A)),(20, .t (.int .i64 B))] ⟨[],[]⟩
noncomputable def VL80_4 :Env→St→Option Res:=fun e st=>atV Try.prog hint 80 0 Try.f80 36 (List.reverse PaL80_4) e st
noncomputable def L80_4(s0:ByteArray)(A B:Int) :Option Res:=WL80_4 VL80_4 s0 A B
abbrev YL32_6 :=ByteArray→Bool→Int→Bool→(List T)→Option Res
abbrev YL32_12 :=ByteArray→Bool→Int→Bool→(List T)→Option Res
abbrev YL32_15 :=ByteArray→Bool→Int→Int→Int→Bool→(List T)→Option Res
abbrev YJ32_22 :=ByteArray→Int→Int→Bool→(List T)→Int→ByteArray→Int→Option Res
def PaL32_6 :List Stp:=[.blk, .snd, .fst, .snd, .snd, .snd, .snd]
def PaL32_12 :List Stp:=[.blk, .fst, .yes, .snd, .fst, .snd, .snd, .blk, .snd, .lp, .blk, .snd, .fst, .snd, .snd, .snd, .snd]
def PaL32_15 :List Stp:=[.blk, .fst, .snd, .snd, .snd, .snd, .blk, .snd, .lp, .blk, .snd, .fst, .snd, .snd, .snd, .snd]
def PaJ32_22 :List Stp:=[.snd, .snd, .snd, .snd, .snd, .snd, .snd, .snd, .blk, .snd, .lp, .blk, .snd, .fst, .snd, .snd, .snd, .snd]
def Ta32(KL32_6 KL32_12 KL32_15 KJ32_22:Env→St→Option Res) :Tab:=[(PaL32_6,KL32_6),(PaL32_12,KL32_12),(PaL32_15,KL32_15),(PaJ32_22,KJ32_22)]
def WL32_6(k:Env→St→Option Res)(s0:ByteArray)(line6:Bool)(i7:Int)(A:Bool)(B:List T) :Option Res:=k [(0, .t (.str s0)),(5, .buf 8),(6, .t (.bool line6)),(7, .t (.int .i64 i7))] ⟨[(8, .arr true 3 A B)],[]⟩
noncomputable def VL32_6 :Env→St→Option Res:=fun e st=>atV Try.prog hint 32 0 Try.f32 121 (List.reverse PaL32_6) e st
noncomputable def L32_6(s0:ByteArray)(line6:Bool)(i7:Int)(A:Bool)(B:List T) :Option Res:=WL32_6 VL32_6 s0 line6 i7 A B
def WL32_12(k:Env→St→Option Res)(s0:ByteArray)(line6:Bool)(i7:Int)(A:Bool)(B:List T) :Option Res:=k [(0, .t (.str s0)),(5, .buf 8),(6, .t (.bool line6)),(7, .t (.int .i64 i7))] ⟨[(8, .arr true 3 A B)],[]⟩
noncomputable def VL32_12 :Env→St→Option Res:=fun e st=>atV Try.prog hint 32 0 Try.f32 121 (List.reverse PaL32_12) e st
noncomputable def L32_12(s0:ByteArray)(line6:Bool)(i7:Int)(A:Bool)(B:List T) :Option Res:=WL32_12 VL32_12 s0 line6 i7 A B
def WL32_15(k:Env→St→Option Res)(s0:ByteArray)(line6:Bool)(i7 c8 n9:Int)(A:Bool)(B:List T) :Option Res:=k [(0, .t (.str s0)),(5, .buf 8),(6, .t (.bool line6)),(7, .t (.int .i64 i7)),(8, .t (.int .u8 c8)),(9, .t (.int .i64 n9))] ⟨[(8, .arr true 3 A B)],[]⟩
noncomputable def VL32_15 :Env→St→Option Res:=fun e st=>atV Try.prog hint 32 0 Try.f32 121 (List.reverse PaL32_15) e st
noncomputable def L32_15(s0:ByteArray)(line6:Bool)(i7 c8 n9:Int)(A:Bool)(B:List T) :Option Res:=WL32_15 VL32_15 s0 line6 i7 c8 n9 A B
def WJ32_22(k:Env→St→Option Res)(s0:ByteArray)(i7 n9:Int)(A:Bool)(B:List T)(C:Int)(D:ByteArray)(E:Int) :Option Res:=k [(0, .t (.str s0)),(5, .buf 8),(7, .t (.int .i64 i7)),(9, .t (.int .i64 n9)),(10, .ptr 9 0 0)] ⟨[(8, .arr true 3 A B),(9, .var [.t (.int .i64 C), .t (.str D), .t (.int .i64 E)])],[]⟩
noncomputable def VJ32_22 :Env→St→Option Res:=fun e st=>atV Try.prog hint 32 0 Try.f32 121 (List.reverse PaJ32_22) e st
noncomputable def J32_22(s0:ByteArray)(i7 n9:Int)(A:Bool)(B:List T)(C:Int)(D:ByteArray)(E:Int) :Option Res:=WJ32_22 VJ32_22 s0 i7 n9 A B C D E
abbrev YL33_5 :=Bool→(List T)→Int→Int→(List RowV)→Option Res
def PaL33_5 :List Stp:=[.blk, .snd, .fst, .snd, .snd, .snd]
def Ta33(KL33_5:Env→St→Option Res) :Tab:=[(PaL33_5,KL33_5)]
def WL33_5(k:Env→St→Option Res)(A:Bool)(B:List T)(C D:Int)(E:List RowV) :Option Res:=k [(3, .buf 8),(10, .t (.list 3 A B)),(11, .t (.int .i64 C)),(12, .t (.int .i64 D))] ⟨[(8, .rows 3 E)],[]⟩
noncomputable def VL33_5 :Env→St→Option Res:=fun e st=>atV Try.prog hint 33 0 Try.f33 38 (List.reverse PaL33_5) e st
noncomputable def L33_5(A:Bool)(B:List T)(C D:Int)(E:List RowV) :Option Res:=WL33_5 VL33_5 A B C D E
abbrev YL66_2 :=ByteArray→Int→Option Res
def PaL66_2 :List Stp:=[.blk, .snd, .fst, .snd]
def Ta66(KL66_2:Env→St→Option Res) :Tab:=[(PaL66_2,KL66_2)]
def WL66_2(k:Env→St→Option Res)(s0:ByteArray)(A:Int) :Option Res:=k [(0, .t (.str s0)),(6, .t (.int .i64 A))] ⟨[],[]⟩
noncomputable def VL66_2 :Env→St→Option Res:=fun e st=>atV Try.prog hint 66 0 Try.f66 19 (List.reverse PaL66_2) e st
noncomputable def L66_2(s0:ByteArray)(A:Int) :Option Res:=WL66_2 VL66_2 s0 A
abbrev YL34_8 :=Bool→(List T)→ByteArray→Int→Int→Int→Int→Int→Int→Int→Int→Int→Int→Int→Int→Bool→(List T)→Option Res
abbrev YJ34_27 :=Bool→(List T)→ByteArray→Bool→Int→Int→Int→Int→Int→Int→Int→Int→Int→Int→Int→Int→Bool→(List T)→Option Res
def PaL34_8 :List Stp:=[.blk, .snd, .fst, .snd, .snd, .snd, .snd, .snd, .snd]
def PaJ34_27 :List Stp:=[.snd, .snd, .snd, .snd, .blk, .fst, .snd, .snd, .lp, .blk, .snd, .fst, .snd, .snd, .snd, .snd, .snd, .snd]
def Ta34(KL34_8 KJ34_27:Env→St→Option Res) :Tab:=[(PaL34_8,KL34_8),(PaJ34_27,KJ34_27)]
def WL34_8(k:Env→St→Option Res)(l0z:Bool)(l0:List T)(kinds6:ByteArray)(A B C D E F G H I J K L:Int)(M:Bool)(N:List T) :Option Res:=k [(0, .t (.list 3 l0z l0)),(2, .ptr 8 0 0),(4, .ptr 9 0 0),(6, .t (.str kinds6)),(7, .buf 10),(45, .t (.int .i64 A)),(46, .t (.int .i64 B))] ⟨[(8, .var [.t (.int .i64 C), .t (.int .i64 D), .t (.int .i64 E), .t (.int .i64 F), .t (.int .i64 G)]),(9, .var [.t (.int .i64 H), .t (.int .i64 I), .t (.int .i64 J), .t (.int .i64 K), .t (.int .i64 L)]),(10, .arr true 1 M N)],[]⟩
noncomputable def VL34_8 :Env→St→Option Res:=fun e st=>atV Try.prog hint 34 0 Try.f34 161 (List.reverse PaL34_8) e st
noncomputable def L34_8(l0z:Bool)(l0:List T)(kinds6:ByteArray)(A B C D E F G H I J K L:Int)(M:Bool)(N:List T) :Option Res:=WL34_8 VL34_8 l0z l0 kinds6 A B C D E F G H I J K L M N
def WJ34_27(k:Env→St→Option Res)(l0z:Bool)(l0:List T)(kinds6:ByteArray)(ok9:Bool)(A B C D E F G H I J K L:Int)(M:Bool)(N:List T) :Option Res:=k [(0, .t (.list 3 l0z l0)),(2, .ptr 8 0 0),(4, .ptr 9 0 0),(6, .t (.str kinds6)),(7, .buf 10),(9, .t (.bool ok9)),(45, .t (.int .i64 A)),(46, .t (.int .i64 B))] ⟨[(8, .var [.t (.int .i64 C), .t (.int .i64 D), .t (.int .i64 E), .t (.int .i64 F), .t (.int .i64 G)]),(9, .var [.t (.int .i64 H), .t (.int .i64 I), .t (.int .i64 J), .t (.int .i64 K), .t (.int .i64 L)]),(10, .arr true 1 M N)],[]⟩
noncomputable def VJ34_27 :Env→St→Option Res:=fun e st=>atV Try.prog hint 34 0 Try.f34 161 (List.reverse PaJ34_27) e st
noncomputable def J34_27(l0z:Bool)(l0:List T)(kinds6:ByteArray)(ok9:Bool)(A B C D E F G H I J K L:Int)(M:Bool)(N:List T) :Option Res:=WJ34_27 VJ34_27 l0z l0 kinds6 ok9 A B C D E F G H I J K L M N
abbrev YL50_7 :=ByteArray→Bool→(List T)→Bool→Int→Int→Int→Int→Int→Int→Int→Int→Int→Bool→(List T)→Option Res
abbrev YJ50_12 :=ByteArray→Bool→(List T)→Bool→Int→Int→Int→Int→Int→Int→Int→Int→Int→Int→Int→Bool→(List T)→Option Res
abbrev YJ50_23 :=ByteArray→Bool→(List T)→Bool→Int→Int→Int→Int→Int→Int→Int→Int→Int→Int→Int→Bool→(List T)→Option Res
def PaL50_7 :List Stp:=[.blk, .snd, .fst, .snd, .snd, .snd, .snd, .snd]
def PaJ50_12 :List Stp:=[.snd, .snd, .snd, .blk, .fst, .snd, .snd, .lp, .blk, .snd, .fst, .snd, .snd, .snd, .snd, .snd]
def PaJ50_23 :List Stp:=[.snd, .snd, .snd, .snd, .snd, .blk, .fst, .snd, .snd, .lp, .blk, .snd, .fst, .snd, .snd, .snd, .snd, .snd]
def Ta50(KL50_7 KJ50_12 KJ50_23:Env→St→Option Res) :Tab:=[(PaL50_7,KL50_7),(PaJ50_12,KJ50_12),(PaJ50_23,KJ50_23)]
def WL50_7(k:Env→St→Option Res)(kinds6:ByteArray)(f7z:Bool)(f7:List T)(n8:Bool)(A B C D E F G H I:Int)(J:Bool)(K:List T) :Option Res:=k [(2, .ptr 8 0 0),(3, .ptr 9 0 0),(6, .t (.str kinds6)),(7, .t (.list 1 f7z f7)),(8, .t (.bool n8)),(22, .t (.int .i64 A))] ⟨[(8, .var [.t (.int .i64 B), .t (.int .i64 C), .t (.int .i64 D), .t (.int .i64 E), .t (.int .i64 F)]),(9, .var [.t (.int .i64 G), .t (.int .i64 H), .t (.int .i64 I), .t (.list 5 J K)])],[]⟩
noncomputable def VL50_7 :Env→St→Option Res:=fun e st=>atV Try.prog hint 50 0 Try.f50 76 (List.reverse PaL50_7) e st
noncomputable def L50_7(kinds6:ByteArray)(f7z:Bool)(f7:List T)(n8:Bool)(A B C D E F G H I:Int)(J:Bool)(K:List T) :Option Res:=WL50_7 VL50_7 kinds6 f7z f7 n8 A B C D E F G H I J K
def WJ50_12(k:Env→St→Option Res)(kinds6:ByteArray)(f7z:Bool)(f7:List T)(n8:Bool)(i9 kind10 A B C D E F G H I:Int)(J:Bool)(K:List T) :Option Res:=k [(2, .ptr 8 0 0),(3, .ptr 9 0 0),(6, .t (.str kinds6)),(7, .t (.list 1 f7z f7)),(8, .t (.bool n8)),(9, .t (.int .i64 i9)),(10, .t (.int .u8 kind10)),(22, .t (.int .i64 A))] ⟨[(8, .var [.t (.int .i64 B), .t (.int .i64 C), .t (.int .i64 D), .t (.int .i64 E), .t (.int .i64 F)]),(9, .var [.t (.int .i64 G), .t (.int .i64 H), .t (.int .i64 I), .t (.list 5 J K)])],[]⟩
noncomputable def VJ50_12 :Env→St→Option Res:=fun e st=>atV Try.prog hint 50 0 Try.f50 76 (List.reverse PaJ50_12) e st
noncomputable def J50_12(kinds6:ByteArray)(f7z:Bool)(f7:List T)(n8:Bool)(i9 kind10 A B C D E F G H I:Int)(J:Bool)(K:List T) :Option Res:=WJ50_12 VJ50_12 kinds6 f7z f7 n8 i9 kind10 A B C D E F G H I J K
def WJ50_23(k:Env→St→Option Res)(kinds6:ByteArray)(f7z:Bool)(f7:List T)(n8:Bool)(i9 limit11 A B C D E F G H I:Int)(J:Bool)(K:List T) :Option Res:=k [(2, .ptr 8 0 0),(3, .ptr 9 0 0),(6, .t (.str kinds6)),(7, .t (.list 1 f7z f7)),(8, .t (.bool n8)),(9, .t (.int .i64 i9)),(11, .t (.int .i64 limit11)),(22, .t (.int .i64 A))] ⟨[(8, .var [.t (.int .i64 B), .t (.int .i64 C), .t (.int .i64 D), .t (.int .i64 E), .t (.int .i64 F)]),(9, .var [.t (.int .i64 G), .t (.int .i64 H), .t (.int .i64 I), .t (.list 5 J K)])],[]⟩
noncomputable def VJ50_23 :Env→St→Option Res:=fun e st=>atV Try.prog hint 50 0 Try.f50 76 (List.reverse PaJ50_23) e st
noncomputable def J50_23(kinds6:ByteArray)(f7z:Bool)(f7:List T)(n8:Bool)(i9 limit11 A B C D E F G H I:Int)(J:Bool)(K:List T) :Option Res:=WJ50_23 VJ50_23 kinds6 f7z f7 n8 i9 limit11 A B C D E F G H I J K
abbrev YL27_3 :=Bool→Bool→(List T)→Int→Int→Int→Int→Int→Bool→(List T)→Option Res
def PaL27_3 :List Stp:=[.blk, .snd, .fst, .snd, .snd]
def Ta27(KL27_3:Env→St→Option Res) :Tab:=[(PaL27_3,KL27_3)]
def WL27_3(k:Env→St→Option Res)(ok3 A:Bool)(B:List T)(C D E F G:Int)(H:Bool)(I:List T) :Option Res:=k [(1, .ptr 8 0 0),(3, .t (.bool ok3)),(50, .t (.list 5 A B)),(51, .t (.int .i64 C)),(52, .t (.int .i64 D))] ⟨[(8, .var [.t (.int .i64 E), .t (.int .i64 F), .t (.int .i64 G), .t (.list 5 H I)])],[]⟩
noncomputable def VL27_3 :Env→St→Option Res:=fun e st=>atV Try.prog hint 27 0 Try.f27 81 (List.reverse PaL27_3) e st
noncomputable def L27_3(ok3 A:Bool)(B:List T)(C D E F G:Int)(H:Bool)(I:List T) :Option Res:=WL27_3 VL27_3 ok3 A B C D E F G H I
abbrev YL11_12 :=Bool→(List T)→Bool→(List T)→Int→Int→Int→Int→Int→Bool→(List T)→Int→Int→Int→Bool→(List T)→Option Res
def PaL11_12 :List Stp:=[.blk, .snd, .fst, .snd, .snd, .snd, .snd, .snd, .snd, .snd, .snd]
def Ta11(KL11_12:Env→St→Option Res) :Tab:=[(PaL11_12,KL11_12)]
def WL11_12(k:Env→St→Option Res)(lines8z:Bool)(lines8:List T)(A:Bool)(B:List T)(C D E F G:Int)(H:Bool)(I:List T)(J K L:Int)(M:Bool)(N:List T) :Option Res:=k [(2, .ptr 8 0 0),(8, .t (.list 1 lines8z lines8)),(10, .ptr 9 0 0),(88, .t (.list 1 A B)),(89, .t (.int .i64 C)),(90, .t (.int .i64 D))] ⟨[(8, .var [.t (.int .i64 E), .t (.int .i64 F), .t (.int .i64 G), .t (.list 5 H I)]),(9, .var [.t (.int .i64 J), .t (.int .i64 K), .t (.int .i64 L), .buf 10]),(10, .arr true 5 M N)],[]⟩
noncomputable def VL11_12 :Env→St→Option Res:=fun e st=>atV Try.prog hint 11 0 Try.f11 119 (List.reverse PaL11_12) e st
noncomputable def L11_12(lines8z:Bool)(lines8:List T)(A:Bool)(B:List T)(C D E F G:Int)(H:Bool)(I:List T)(J K L:Int)(M:Bool)(N:List T) :Option Res:=WL11_12 VL11_12 lines8z lines8 A B C D E F G H I J K L M N
abbrev YL12_4 :=Int→Int→Int→Int→Int→Bool→(List T)→Int→Int→Int→Bool→(List T)→Option Res
def PaL12_4 :List Stp:=[.blk, .snd, .fst, .snd, .snd]
def Ta12(KL12_4:Env→St→Option Res) :Tab:=[(PaL12_4,KL12_4)]
def WL12_4(k:Env→St→Option Res)(A B C D E:Int)(F:Bool)(G:List T)(H I J:Int)(K:Bool)(L:List T) :Option Res:=k [(2, .ptr 8 0 0),(3, .ptr 9 0 0),(36, .t (.int .i64 A)),(37, .t (.int .i64 B))] ⟨[(8, .var [.t (.int .i64 C), .t (.int .i64 D), .t (.int .i64 E), .t (.list 5 F G)]),(9, .var [.t (.int .i64 H), .t (.int .i64 I), .t (.int .i64 J), .t (.list 5 K L)])],[]⟩
noncomputable def VL12_4 :Env→St→Option Res:=fun e st=>atV Try.prog hint 12 0 Try.f12 52 (List.reverse PaL12_4) e st
noncomputable def L12_4(A B C D E:Int)(F:Bool)(G:List T)(H I J:Int)(K:Bool)(L:List T) :Option Res:=WL12_4 VL12_4 A B C D E F G H I J K L
abbrev Z0 :Option Res:=some ((.tup [.t (.agg [.int .i64 0, .int .i64 0, .int .i64 0, .list 5 false []]), .t (.int .i64 0), .t (.int .i64 6)]),⟨[],[]⟩)
abbrev Z1(v0:Bool)(v1:List T)(v2:Bool) :St:=⟨[(0, .var [.t (.list 3 v0 v1), .t (.bool v2)])],[]⟩
noncomputable def R52(A:ByteArray)(B:Int) :Option Res:=callK (vr 75 0 [.t (.str A), .t (.int .u8 B)] ⟨[],[]⟩) fun a b=>asT a fun c=>asI .i64 c fun a=>endB b <| some ((.t (.int .i64 a)),⟨[],[]⟩)
theorem eq52g(A:ByteArray)(B:Int) :gE 52 0 8 Try.f52 [] [.t (.str A), .t (.int .u8 B)] ⟨[],[]⟩=R52 A B:=by kernel_rfl
theorem eq52(A:ByteArray)(B:Int) :vr 52 0 [.t (.str A), .t (.int .u8 B)] ⟨[],[]⟩=R52 A B:=
 Eq.trans (call_eq Try.prog hint (fn:=Try.f52) (nt:=8) (T:=[]) [] rfl _ _ rfl rfl rfl rfl rfl) (eq52g A B)
noncomputable def R51(A:Int) :Option Res:=
(bif (decide (97≤(bitsI .or .u8 A 32))) then
(bif (decide ((bitsI .or .u8 A 32)≤122)) then
 some ((.t (.int .i64 1)),⟨[],[]⟩)
else
(bif (decide (48≤A)) then
(bif (decide (A≤57)) then
 some ((.t (.int .i64 2)),⟨[],[]⟩)
else
 callK (vr 52 0 [.t (.str ⟨#[43,45,42,40,41,91,93,44,61,58]⟩), .t (.int .u8 A)] ⟨[],[]⟩) fun a b=>asT a fun c=>asI .i64 c fun a=>endB b <|
(bif (decide (0≤a)) then
 some ((.t (.int .i64 3)),⟨[],[]⟩)
else
(bif (decide (A=32)) then
 some ((.t (.int .i64 4)),⟨[],[]⟩)
else
(bif (decide (A=9)) then
 some ((.t (.int .i64 4)),⟨[],[]⟩)
else
(bif (decide (A=10)) then
 some ((.t (.int .i64 5)),⟨[],[]⟩)
else
(bif (decide (A=35)) then
 some ((.t (.int .i64 6)),⟨[],[]⟩)
else
 some ((.t (.int .i64 0)),⟨[],[]⟩)))))))
else
 callK (vr 52 0 [.t (.str ⟨#[43,45,42,40,41,91,93,44,61,58]⟩), .t (.int .u8 A)] ⟨[],[]⟩) fun a b=>asT a fun c=>asI .i64 c fun a=>endB b <|
(bif (decide (0≤a)) then
 some ((.t (.int .i64 3)),⟨[],[]⟩)
else
(bif (decide (A=32)) then
 some ((.t (.int .i64 4)),⟨[],[]⟩)
else
(bif (decide (A=9)) then
 some ((.t (.int .i64 4)),⟨[],[]⟩)
else
(bif (decide (A=10)) then
 some ((.t (.int .i64 5)),⟨[],[]⟩)
else
(bif (decide (A=35)) then
 some ((.t (.int .i64 6)),⟨[],[]⟩)
else
 some ((.t (.int .i64 0)),⟨[],[]⟩))))))))
else
(bif (decide (48≤A)) then
(bif (decide (A≤57)) then
 some ((.t (.int .i64 2)),⟨[],[]⟩)
else
 callK (vr 52 0 [.t (.str ⟨#[43,45,42,40,41,91,93,44,61,58]⟩), .t (.int .u8 A)] ⟨[],[]⟩) fun a b=>asT a fun c=>asI .i64 c fun a=>endB b <|
(bif (decide (0≤a)) then
 some ((.t (.int .i64 3)),⟨[],[]⟩)
else
(bif (decide (A=32)) then
 some ((.t (.int .i64 4)),⟨[],[]⟩)
else
(bif (decide (A=9)) then
 some ((.t (.int .i64 4)),⟨[],[]⟩)
else
(bif (decide (A=10)) then
 some ((.t (.int .i64 5)),⟨[],[]⟩)
else
(bif (decide (A=35)) then
 some ((.t (.int .i64 6)),⟨[],[]⟩)
else
 some ((.t (.int .i64 0)),⟨[],[]⟩)))))))
else
 callK (vr 52 0 [.t (.str ⟨#[43,45,42,40,41,91,93,44,61,58]⟩), .t (.int .u8 A)] ⟨[],[]⟩) fun a b=>asT a fun c=>asI .i64 c fun a=>endB b <|
(bif (decide (0≤a)) then
 some ((.t (.int .i64 3)),⟨[],[]⟩)
else
(bif (decide (A=32)) then
 some ((.t (.int .i64 4)),⟨[],[]⟩)
else
(bif (decide (A=9)) then
 some ((.t (.int .i64 4)),⟨[],[]⟩)
else
(bif (decide (A=10)) then
 some ((.t (.int .i64 5)),⟨[],[]⟩)
else
(bif (decide (A=35)) then
 some ((.t (.int .i64 6)),⟨[],[]⟩)
else
 some ((.t (.int .i64 0)),⟨[],[]⟩))))))))
theorem eq51g(A:Int) :gE 51 0 36 Try.f51 [] [.t (.int .u8 A)] ⟨[],[]⟩=R51 A:=by kernel_rfl
theorem eq51(A:Int) :vr 51 0 [.t (.int .u8 A)] ⟨[],[]⟩=R51 A:=
 Eq.trans (call_eq Try.prog hint (fn:=Try.f51) (nt:=36) (T:=[]) [] rfl _ _ rfl rfl rfl rfl rfl) (eq51g A)
noncomputable def R53(L53_2:YL53_2)(A:ByteArray) :Option Res:=L53_2 (A) (0)
theorem eq53g(KL53_2:Env→St→Option Res)(A:ByteArray) :gE 53 0 25 Try.f53 (Ta53 KL53_2) [.t (.str A)] ⟨[],[]⟩=R53 (WL53_2 KL53_2) A:=by kernel_rfl
theorem eq53(A:ByteArray) :vr 53 0 [.t (.str A)] ⟨[],[]⟩=R53 L53_2 A:=
 Eq.trans (call_eq Try.prog hint (fn:=Try.f53) (nt:=25) (T:=(Ta53 VL53_2)) [PaL53_2] rfl _ _ rfl rfl rfl rfl rfl) (eq53g VL53_2 A)
noncomputable def RL53_2(L53_2:YL53_2)(s0:ByteArray)(n3:Int) :Option Res:=
(bif (decide (n3<(s0.size:Int))) then
 needC (decide (0≤n3) &&decide (n3<(s0.size:Int))) fun _=>callK (vr 51 0 [.t (.int .u8 (((s0:ByteArray)[(n3).toNat]!).toNat:Int))] ⟨[],[]⟩) fun a b=>asT a fun c=>asI .i64 c fun a=>endB b <|
(bif (decide (a=1)) then
 L53_2 (s0) ((IntKind.i64.wrap (n3+1)))
else
 needC (decide (0≤n3) &&decide (n3<(s0.size:Int))) fun _=>callK (vr 51 0 [.t (.int .u8 (((s0:ByteArray)[(n3).toNat]!).toNat:Int))] ⟨[],[]⟩) fun a b=>asT a fun c=>asI .i64 c fun a=>endB b <|
(bif (decide (a=2)) then
 L53_2 (s0) ((IntKind.i64.wrap (n3+1)))
else
 some ((.t (.int .i64 n3)),⟨[],[]⟩)))
else
 some ((.t (.int .i64 n3)),⟨[],[]⟩))
theorem L53_2g(KL53_2:Env→St→Option Res)(s0:ByteArray)(n3:Int) :WL53_2 (fun e st=>gP 53 0 25 Try.f53 (Ta53 KL53_2) (.lp::PaL53_2) e st) s0 n3=RL53_2 (WL53_2 KL53_2) s0 n3:=by kernel_rfl
theorem L53_2_eq(s0:ByteArray)(n3:Int) :L53_2 s0 n3=RL53_2 L53_2 s0 n3:=
 (congrArg (fun k=>WL53_2 k s0 n3) (funext fun e=>funext fun st=>round_eq Try.prog hint (b:=(nav (List.reverse (.lp::PaL53_2)) (bodyOf Try.f53))) (fn:=Try.f53) (nt:=25) (T:=(Ta53 VL53_2)) [PaL53_2] rfl PaL53_2 e st rfl rfl rfl)).trans (L53_2g VL53_2 s0 n3)
noncomputable def R76(A:ByteArray) :Option Res:=
(bif (!decide ((A:ByteArray)=⟨#[]⟩)) then
(bif (decide ((A.size:Int)≤16)) then
 needC (decide (0≤0) &&decide ((0:Int)<(A.size:Int))) fun _=>callK (vr 51 0 [.t (.int .u8 (((A:ByteArray)[((0:Int)).toNat]!).toNat:Int))] ⟨[],[]⟩) fun a b=>asT a fun c=>asI .i64 c fun a=>endB b <|
(bif (decide (a=1)) then
 callK (vr 53 0 [.t (.str A)] ⟨[],[]⟩) fun a b=>asT a fun c=>asI .i64 c fun a=>endB b <| some ((.t (.bool (decide (a=(A.size:Int))))),⟨[],[]⟩)
else
 some ((.t (.bool false)),⟨[],[]⟩))
else
 some ((.t (.bool false)),⟨[],[]⟩))
else
 some ((.t (.bool false)),⟨[],[]⟩))
theorem eq76g(A:ByteArray) :gE 76 0 23 Try.f76 [] [.t (.str A)] ⟨[],[]⟩=R76 A:=by kernel_rfl
theorem eq76(A:ByteArray) :vr 76 0 [.t (.str A)] ⟨[],[]⟩=R76 A:=
 Eq.trans (call_eq Try.prog hint (fn:=Try.f76) (nt:=23) (T:=[]) [] rfl _ _ rfl rfl rfl rfl rfl) (eq76g A)
noncomputable def R77(L77_4:YL77_4)(A:ByteArray) :Option Res:=
(bif (decide ((A:ByteArray)=⟨#[]⟩)) then
 some ((.tup [.t (.int .i64 0), .t (.bool false)]),⟨[],[]⟩)
else
(bif (decide (18<(A.size:Int))) then
 some ((.tup [.t (.int .i64 0), .t (.bool false)]),⟨[],[]⟩)
else
(bif (decide (1<(A.size:Int))) then
 needC (decide (0≤0) &&decide ((0:Int)<(A.size:Int))) fun _=>
(bif (decide ((((A:ByteArray)[((0:Int)).toNat]!).toNat:Int)=48)) then
 some ((.tup [.t (.int .i64 0), .t (.bool false)]),⟨[],[]⟩)
else
 L77_4 (A) (0) ((A.size:Int)) (0))
else
 L77_4 (A) (0) ((A.size:Int)) (0))))
theorem eq77g(KL77_4:Env→St→Option Res)(A:ByteArray) :gE 77 0 42 Try.f77 (Ta77 KL77_4) [.t (.str A)] ⟨[],[]⟩=R77 (WL77_4 KL77_4) A:=by kernel_rfl
theorem eq77(A:ByteArray) :vr 77 0 [.t (.str A)] ⟨[],[]⟩=R77 L77_4 A:=
 Eq.trans (call_eq Try.prog hint (fn:=Try.f77) (nt:=42) (T:=(Ta77 VL77_4)) [PaL77_4] rfl _ _ rfl rfl rfl rfl rfl) (eq77g VL77_4 A)
noncomputable def RL77_4(L77_4:YL77_4)(s0:ByteArray)(n2 A B:Int) :Option Res:=
(bif (decide (B<A)) then
 needC (decide (0≤B) &&decide (B<(s0.size:Int))) fun _=>callK (vr 51 0 [.t (.int .u8 (((s0:ByteArray)[(B).toNat]!).toNat:Int))] ⟨[],[]⟩) fun a b=>asT a fun c=>asI .i64 c fun a=>endB b <|
(bif (!decide (a=2)) then
 some ((.tup [.t (.int .i64 0), .t (.bool false)]),⟨[],[]⟩)
else
 needC (decide (0≤B) &&decide (B<(s0.size:Int))) fun _=>L77_4 (s0) ((IntKind.i64.wrap ((IntKind.i64.wrap ((10:Int)*n2))+(IntKind.i64.wrap (IntKind.u8.wrap ((((s0:ByteArray)[(B).toNat]!).toNat:Int) - 48)))))) (A) ((IntKind.i64.wrap (B+1))))
else
 some ((.tup [.t (.int .i64 n2), .t (.bool true)]),⟨[],[]⟩))
theorem L77_4g(KL77_4:Env→St→Option Res)(s0:ByteArray)(n2 A B:Int) :WL77_4 (fun e st=>gP 77 0 42 Try.f77 (Ta77 KL77_4) (.lp::PaL77_4) e st) s0 n2 A B=RL77_4 (WL77_4 KL77_4) s0 n2 A B:=by kernel_rfl
theorem L77_4_eq(s0:ByteArray)(n2 A B:Int) :L77_4 s0 n2 A B=RL77_4 L77_4 s0 n2 A B:=
 (congrArg (fun k=>WL77_4 k s0 n2 A B) (funext fun e=>funext fun st=>round_eq Try.prog hint (b:=(nav (List.reverse (.lp::PaL77_4)) (bodyOf Try.f77))) (fn:=Try.f77) (nt:=42) (T:=(Ta77 VL77_4)) [PaL77_4] rfl PaL77_4 e st rfl rfl rfl)).trans (L77_4g VL77_4 s0 n2 A B)
noncomputable def R54(A:ByteArray) :Option Res:=callK (vr 76 0 [.t (.str A)] ⟨[],[]⟩) fun a b=>asT a fun c=>asB c fun a=>endB b <|
(bif a then
 some ((.tup [.t (.agg [.int .i64 1, .str A, .int .i64 0]), .t (.bool true)]),⟨[],[]⟩)
else
(bif (decide ((A.size:Int)=1)) then
 needC (decide (0≤0) &&decide ((0:Int)<(A.size:Int))) fun _=>callK (vr 51 0 [.t (.int .u8 (((A:ByteArray)[((0:Int)).toNat]!).toNat:Int))] ⟨[],[]⟩) fun a b=>asT a fun c=>asI .i64 c fun a=>endB b <|
(bif (decide (a=3)) then
 some ((.tup [.t (.agg [.int .i64 3, .str A, .int .i64 0]), .t (.bool true)]),⟨[],[]⟩)
else
 callK (vr 77 0 [.t (.str A)] ⟨[],[]⟩) fun a b=>asTup a fun c=>consV c fun a d=>asT a fun c=>asI .i64 c fun a=>consV d fun c f=>asT c fun d=>asB d fun c=>endV f <| endB b <| some ((.tup [.t (.agg [.int .i64 2, .str A, .int .i64 a]), .t (.bool c)]),⟨[],[]⟩))
else
 callK (vr 77 0 [.t (.str A)] ⟨[],[]⟩) fun a b=>asTup a fun c=>consV c fun a d=>asT a fun c=>asI .i64 c fun a=>consV d fun c f=>asT c fun d=>asB d fun c=>endV f <| endB b <| some ((.tup [.t (.agg [.int .i64 2, .str A, .int .i64 a]), .t (.bool c)]),⟨[],[]⟩)))
theorem eq54g(A:ByteArray) :gE 54 0 31 Try.f54 [] [.t (.str A)] ⟨[],[]⟩=R54 A:=by kernel_rfl
theorem eq54(A:ByteArray) :vr 54 0 [.t (.str A)] ⟨[],[]⟩=R54 A:=
 Eq.trans (call_eq Try.prog hint (fn:=Try.f54) (nt:=31) (T:=[]) [] rfl _ _ rfl rfl rfl rfl rfl) (eq54g A)
noncomputable def R28(L28_6:YL28_6)(J28_28:YJ28_28)(J28_21:YJ28_21)(J28_26:YJ28_26)(A:ByteArray) :Option Res:=
(bif (decide (65536<(A.size:Int))) then
 some ((.tup [.t (.list 3 false []), .t (.int .i64 0), .t (.int .i64 2)]),⟨[],[]⟩)
else
 L28_6 (A) (false) (0) (false) ([]))
theorem eq28g(KL28_6 KJ28_28 KJ28_21 KJ28_26:Env→St→Option Res)(A:ByteArray) :gE 28 0 82 Try.f28 (Ta28 KL28_6 KJ28_28 KJ28_21 KJ28_26) [.t (.str A)] ⟨[],[]⟩=R28 (WL28_6 KL28_6) (WJ28_28 KJ28_28) (WJ28_21 KJ28_21) (WJ28_26 KJ28_26) A:=by kernel_rfl
theorem eq28(A:ByteArray) :vr 28 0 [.t (.str A)] ⟨[],[]⟩=R28 L28_6 J28_28 J28_21 J28_26 A:=
 Eq.trans (call_eq Try.prog hint (fn:=Try.f28) (nt:=82) (T:=(Ta28 VL28_6 VJ28_28 VJ28_21 VJ28_26)) [PaL28_6,PaJ28_28,PaJ28_21,PaJ28_26] rfl _ _ rfl rfl rfl rfl rfl) (eq28g VL28_6 VJ28_28 VJ28_21 VJ28_26 A)
noncomputable def RL28_6(L28_6:YL28_6)(J28_28:YJ28_28)(J28_21:YJ28_21)(J28_26:YJ28_26)(s0:ByteArray)(ends6:Bool)(at7:Int)(A:Bool)(B:List T) :Option Res:=
(bif (decide (at7<(s0.size:Int))) then
 needC (decide (0≤at7) &&decide (at7<(s0.size:Int))) fun _=>callK (vr 51 0 [.t (.int .u8 (((s0:ByteArray)[(at7).toNat]!).toNat:Int))] ⟨[],[]⟩) fun a b=>asT a fun c=>asI .i64 c fun a=>endB b <|
(bif (decide (a=5)) then
 L28_6 (s0) ((decide (0<(B.length:Int)))) ((IntKind.i64.wrap (at7+1))) (A) (B)
else
(bif (decide (a=4)) then
 L28_6 (s0) (ends6) ((IntKind.i64.wrap (at7+1))) (A) (B)
else
(bif (decide (a=6)) then
 subS s0 (some at7) none fun b=>callK (vr 52 0 [.t (.str b), .t (.int .u8 10)] ⟨[],[]⟩) fun c d=>asT c fun b=>asI .i64 b fun c=>endB d <|
(bif (decide (c<0)) then
 J28_28 (s0) (A) (B)
else
 L28_6 (s0) (ends6) ((IntKind.i64.wrap (at7+c))) (A) (B))
else
(bif (decide (a=1)) then
 subS s0 (some at7) none fun b=>callK (vr 53 0 [.t (.str b)] ⟨[],[]⟩) fun c d=>asT c fun b=>asI .i64 b fun c=>endB d <| J28_21 (s0) (ends6) (at7) (c) (A) (B)
else
(bif (decide (a=2)) then
 subS s0 (some at7) none fun a=>callK (vr 53 0 [.t (.str a)] ⟨[],[]⟩) fun b c=>asT b fun a=>asI .i64 a fun b=>endB c <| J28_21 (s0) (ends6) (at7) (b) (A) (B)
else
 J28_21 (s0) (ends6) (at7) (1) (A) (B))))))
else
 J28_28 (s0) (A) (B))
theorem L28_6g(KL28_6 KJ28_28 KJ28_21 KJ28_26:Env→St→Option Res)(s0:ByteArray)(ends6:Bool)(at7:Int)(A:Bool)(B:List T) :WL28_6 (fun e st=>gP 28 0 82 Try.f28 (Ta28 KL28_6 KJ28_28 KJ28_21 KJ28_26) (.lp::PaL28_6) e st) s0 ends6 at7 A B=RL28_6 (WL28_6 KL28_6) (WJ28_28 KJ28_28) (WJ28_21 KJ28_21) (WJ28_26 KJ28_26) s0 ends6 at7 A B:=by kernel_rfl
theorem L28_6_eq(s0:ByteArray)(ends6:Bool)(at7:Int)(A:Bool)(B:List T) :L28_6 s0 ends6 at7 A B=RL28_6 L28_6 J28_28 J28_21 J28_26 s0 ends6 at7 A B:=
 (congrArg (fun k=>WL28_6 k s0 ends6 at7 A B) (funext fun e=>funext fun st=>round_eq Try.prog hint (b:=(nav (List.reverse (.lp::PaL28_6)) (bodyOf Try.f28))) (fn:=Try.f28) (nt:=82) (T:=(Ta28 VL28_6 VJ28_28 VJ28_21 VJ28_26)) [PaL28_6,PaJ28_28,PaJ28_21,PaJ28_26] rfl PaL28_6 e st rfl rfl rfl)).trans (L28_6g VL28_6 VJ28_28 VJ28_21 VJ28_26 s0 ends6 at7 A B)
noncomputable def RJ28_28(L28_6:YL28_6)(J28_28:YJ28_28)(J28_21:YJ28_21)(J28_26:YJ28_26)(s0:ByteArray)(A:Bool)(B:List T) :Option Res:=
(bif (decide (4096<(B.length:Int))) then
 some ((.tup [.t (.list 3 false []), .t (.int .i64 0), .t (.int .i64 2)]),⟨[],[]⟩)
else
 some ((.tup [.t (.list 3 A B), .t (.int .i64 (s0.size:Int)), .t (.int .i64 0)]),⟨[],[]⟩))
theorem J28_28g(KL28_6 KJ28_28 KJ28_21 KJ28_26:Env→St→Option Res)(s0:ByteArray)(A:Bool)(B:List T) :WJ28_28 (fun e st=>gP 28 0 82 Try.f28 (Ta28 KL28_6 KJ28_28 KJ28_21 KJ28_26) PaJ28_28 e st) s0 A B=RJ28_28 (WL28_6 KL28_6) (WJ28_28 KJ28_28) (WJ28_21 KJ28_21) (WJ28_26 KJ28_26) s0 A B:=by kernel_rfl
theorem J28_28_eq(s0:ByteArray)(A:Bool)(B:List T) :J28_28 s0 A B=RJ28_28 L28_6 J28_28 J28_21 J28_26 s0 A B:=
 (congrArg (fun k=>WJ28_28 k s0 A B) (funext fun e=>funext fun st=>join_eq Try.prog hint (fn:=Try.f28) (nt:=82) (T:=(Ta28 VL28_6 VJ28_28 VJ28_21 VJ28_26)) [PaL28_6,PaJ28_28,PaJ28_21,PaJ28_26] rfl PaJ28_28 e st rfl)).trans (J28_28g VL28_6 VJ28_28 VJ28_21 VJ28_26 s0 A B)
noncomputable def RJ28_21(L28_6:YL28_6)(J28_28:YJ28_28)(J28_21:YJ28_21)(J28_26:YJ28_26)(s0:ByteArray)(ends6:Bool)(at7 n8:Int)(A:Bool)(B:List T) :Option Res:=subS s0 (some at7) (some (IntKind.i64.wrap (at7+n8))) fun a=>callK (vr 54 0 [.t (.str a)] ⟨[],[]⟩) fun b c=>asTup b fun a=>consV a fun b d=>asT b fun a=>asA a fun b=>consT b fun a f=>asI .i64 a fun b=>consT f fun a g=>asS a fun f=>consT g fun a h=>asI .i64 a fun g=>endT h <| consV d fun a h=>asT a fun d=>asB d fun a=>endV h <| endB c <|
(bif (!a) then
 some ((.tup [.t (.list 3 false []), .t (.int .i64 at7), .t (.int .i64 6)]),⟨[],[]⟩)
else
(bif ends6 then
 needC (decide ((B.length+1)*(32+1)≤70368744177664) &&decide (32≤1048576)) fun _=>J28_26 (s0) (at7) (n8) ((A || true)) ((B++([.agg [.int .i64 4, .str ByteArray.empty, .int .i64 0]]:List T))) (b) (f) (g)
else
 J28_26 (s0) (at7) (n8) (A) (B) (b) (f) (g)))
theorem J28_21g(KL28_6 KJ28_28 KJ28_21 KJ28_26:Env→St→Option Res)(s0:ByteArray)(ends6:Bool)(at7 n8:Int)(A:Bool)(B:List T) :WJ28_21 (fun e st=>gP 28 0 82 Try.f28 (Ta28 KL28_6 KJ28_28 KJ28_21 KJ28_26) PaJ28_21 e st) s0 ends6 at7 n8 A B=RJ28_21 (WL28_6 KL28_6) (WJ28_28 KJ28_28) (WJ28_21 KJ28_21) (WJ28_26 KJ28_26) s0 ends6 at7 n8 A B:=by kernel_rfl
theorem J28_21_eq(s0:ByteArray)(ends6:Bool)(at7 n8:Int)(A:Bool)(B:List T) :J28_21 s0 ends6 at7 n8 A B=RJ28_21 L28_6 J28_28 J28_21 J28_26 s0 ends6 at7 n8 A B:=
 (congrArg (fun k=>WJ28_21 k s0 ends6 at7 n8 A B) (funext fun e=>funext fun st=>join_eq Try.prog hint (fn:=Try.f28) (nt:=82) (T:=(Ta28 VL28_6 VJ28_28 VJ28_21 VJ28_26)) [PaL28_6,PaJ28_28,PaJ28_21,PaJ28_26] rfl PaJ28_21 e st rfl)).trans (J28_21g VL28_6 VJ28_28 VJ28_21 VJ28_26 s0 ends6 at7 n8 A B)
noncomputable def RJ28_26(L28_6:YL28_6)(J28_28:YJ28_28)(J28_21:YJ28_21)(J28_26:YJ28_26)(s0:ByteArray)(at7 n8:Int)(A:Bool)(B:List T)(C:Int)(D:ByteArray)(E:Int) :Option Res:=needC (decide ((B.length+1)*(32+1)≤70368744177664) &&decide (32≤1048576)) fun _=>L28_6 (s0) (false) ((IntKind.i64.wrap (at7+n8))) ((A || true)) ((B++([.agg [.int .i64 C, .str D, .int .i64 E]]:List T)))
theorem J28_26g(KL28_6 KJ28_28 KJ28_21 KJ28_26:Env→St→Option Res)(s0:ByteArray)(at7 n8:Int)(A:Bool)(B:List T)(C:Int)(D:ByteArray)(E:Int) :WJ28_26 (fun e st=>gP 28 0 82 Try.f28 (Ta28 KL28_6 KJ28_28 KJ28_21 KJ28_26) PaJ28_26 e st) s0 at7 n8 A B C D E=RJ28_26 (WL28_6 KL28_6) (WJ28_28 KJ28_28) (WJ28_21 KJ28_21) (WJ28_26 KJ28_26) s0 at7 n8 A B C D E:=by kernel_rfl
theorem J28_26_eq(s0:ByteArray)(at7 n8:Int)(A:Bool)(B:List T)(C:Int)(D:ByteArray)(E:Int) :J28_26 s0 at7 n8 A B C D E=RJ28_26 L28_6 J28_28 J28_21 J28_26 s0 at7 n8 A B C D E:=
 (congrArg (fun k=>WJ28_26 k s0 at7 n8 A B C D E) (funext fun e=>funext fun st=>join_eq Try.prog hint (fn:=Try.f28) (nt:=82) (T:=(Ta28 VL28_6 VJ28_28 VJ28_21 VJ28_26)) [PaL28_6,PaJ28_28,PaJ28_21,PaJ28_26] rfl PaJ28_26 e st rfl)).trans (J28_26g VL28_6 VJ28_28 VJ28_21 VJ28_26 s0 at7 n8 A B C D E)
noncomputable def R56(A:Int)(B:ByteArray)(C:Int) :Option Res:=some ((.t (.bool (decide (A=4)))),⟨[],[]⟩)
theorem eq56g(A:Int)(B:ByteArray)(C:Int) :gE 56 0 6 Try.f56 [] [.t (.agg [.int .i64 A, .str B, .int .i64 C])] ⟨[],[]⟩=R56 A B C:=by kernel_rfl
theorem eq56(A:Int)(B:ByteArray)(C:Int) :vr 56 0 [.t (.agg [.int .i64 A, .str B, .int .i64 C])] ⟨[],[]⟩=R56 A B C:=
 Eq.trans (call_eq Try.prog hint (fn:=Try.f56) (nt:=6) (T:=[]) [] rfl _ _ rfl rfl rfl rfl rfl) (eq56g A B C)
noncomputable def R55(L55_2:YL55_2)(A:Bool)(B:List T) :Option Res:=L55_2 (A) (B) ((B.length:Int)) (0)
theorem eq55g(KL55_2:Env→St→Option Res)(A:Bool)(B:List T) :gE 55 0 19 Try.f55 (Ta55 KL55_2) [.t (.list 3 A B), .fn 56 [] []] ⟨[],[]⟩=R55 (WL55_2 KL55_2) A B:=by kernel_rfl
theorem eq55(A:Bool)(B:List T) :vr 55 0 [.t (.list 3 A B), .fn 56 [] []] ⟨[],[]⟩=R55 L55_2 A B:=
 Eq.trans (call_eq Try.prog hint (fn:=Try.f55) (nt:=19) (T:=(Ta55 VL55_2)) [PaL55_2] rfl _ _ rfl rfl rfl rfl rfl) (eq55g VL55_2 A B)
noncomputable def RL55_2(L55_2:YL55_2)(s0z:Bool)(s0:List T)(A B:Int) :Option Res:=
(bif (decide (B<A)) then
 needC (decide (0≤B)) fun _=>getT s0 (B).toNat fun a=>asA a fun b=>consT b fun a c=>asI .i64 a fun b=>consT c fun a d=>asS a fun c=>consT d fun a f=>asI .i64 a fun d=>endT f <| callK (vr 56 0 [.t (.agg [.int .i64 b, .str c, .int .i64 d])] ⟨[],[]⟩) fun a f=>asT a fun b=>asB b fun a=>endB f <|
(bif a then
 some ((.t (.int .i64 B)),⟨[],[]⟩)
else
 L55_2 (s0z) (s0) (A) ((IntKind.i64.wrap (B+1))))
else
 some ((.t (.int .i64 (-1))),⟨[],[]⟩))
theorem L55_2g(KL55_2:Env→St→Option Res)(s0z:Bool)(s0:List T)(A B:Int) :WL55_2 (fun e st=>gP 55 0 19 Try.f55 (Ta55 KL55_2) (.lp::PaL55_2) e st) s0z s0 A B=RL55_2 (WL55_2 KL55_2) s0z s0 A B:=by kernel_rfl
theorem L55_2_eq(s0z:Bool)(s0:List T)(A B:Int) :L55_2 s0z s0 A B=RL55_2 L55_2 s0z s0 A B:=
 (congrArg (fun k=>WL55_2 k s0z s0 A B) (funext fun e=>funext fun st=>round_eq Try.prog hint (b:=(nav (List.reverse (.lp::PaL55_2)) (bodyOf Try.f55))) (fn:=Try.f55) (nt:=19) (T:=(Ta55 VL55_2)) [PaL55_2] rfl PaL55_2 e st rfl rfl rfl)).trans (L55_2g VL55_2 s0z s0 A B)
noncomputable def R57(A:Bool)(B:List T) :Option Res:=
(bif (!A) then
 some ((.t (.list 3 false [])),⟨[],[]⟩)
else
 needC (decide ((0+B.length)*(32+1)≤70368744177664) &&decide (32≤1048576)) fun _=>some ((.t (.list 3 true (([]:List T)++B))),⟨[],[]⟩))
theorem eq57g(A:Bool)(B:List T) :gE 57 0 8 Try.f57 [] [.t (.list 3 A B)] ⟨[],[]⟩=R57 A B:=by kernel_rfl
theorem eq57(A:Bool)(B:List T) :vr 57 0 [.t (.list 3 A B)] ⟨[],[]⟩=R57 A B:=
 Eq.trans (call_eq Try.prog hint (fn:=Try.f57) (nt:=8) (T:=[]) [] rfl _ _ rfl rfl rfl rfl rfl) (eq57g A B)
noncomputable def R29(L29_2:YL29_2)(A:Bool)(B:List T) :Option Res:=L29_2 (A) (B) (false) ([])
theorem eq29g(KL29_2:Env→St→Option Res)(A:Bool)(B:List T) :gE 29 0 35 Try.f29 (Ta29 KL29_2) [.t (.list 3 A B)] ⟨[],[]⟩=R29 (WL29_2 KL29_2) A B:=by kernel_rfl
theorem eq29(A:Bool)(B:List T) :vr 29 0 [.t (.list 3 A B)] ⟨[],[]⟩=R29 L29_2 A B:=
 Eq.trans (call_eq Try.prog hint (fn:=Try.f29) (nt:=35) (T:=(Ta29 VL29_2)) [PaL29_2] rfl _ _ rfl rfl rfl rfl rfl) (eq29g VL29_2 A B)
noncomputable def RL29_2(L29_2:YL29_2)(l0z:Bool)(l0:List T)(A:Bool)(B:List T) :Option Res:=
(bif (decide (0<(l0.length:Int))) then
 callK (vr 55 0 [.t (.list 3 l0z l0), .fn 56 [] []] ⟨[],[]⟩) fun a b=>asT a fun c=>asI .i64 c fun a=>endB b <|
(bif (decide (a<0)) then
 callK (vr 57 0 [.t (.list 3 l0z l0)] ⟨[],[]⟩) fun b c=>asT b fun d=>asL 3 d fun b f=>endB c <| needC (decide ((B.length+1)*(24+1)≤70368744177664) &&decide (24≤1048576)) fun _=>some ((.t (.list 1 (A || true) (B++([.list 3 b f]:List T)))),⟨[],[]⟩)
else
 cutL l0 none (some a) fun b=>callK (vr 57 0 [.t (.list 3 l0z b)] ⟨[],[]⟩) fun c d=>asT c fun b=>asL 3 b fun c f=>endB d <| needC (decide ((B.length+1)*(24+1)≤70368744177664) &&decide (24≤1048576)) fun _=>cutL l0 (some (IntKind.i64.wrap (a+1))) none fun b=>
(bif (decide ((b.length:Int)=0)) then
 needC (decide ((((B++([.list 3 c f]:List T))).length+1)*(24+1)≤70368744177664) &&decide (24≤1048576)) fun _=>L29_2 (l0z) (b) (((A || true) || true)) (((B++([.list 3 c f]:List T))++([.list 3 false []]:List T)))
else
 L29_2 (l0z) (b) ((A || true)) ((B++([.list 3 c f]:List T)))))
else
 some ((.t (.list 1 A B)),⟨[],[]⟩))
theorem L29_2g(KL29_2:Env→St→Option Res)(l0z:Bool)(l0:List T)(A:Bool)(B:List T) :WL29_2 (fun e st=>gP 29 0 35 Try.f29 (Ta29 KL29_2) (.lp::PaL29_2) e st) l0z l0 A B=RL29_2 (WL29_2 KL29_2) l0z l0 A B:=by kernel_rfl
theorem L29_2_eq(l0z:Bool)(l0:List T)(A:Bool)(B:List T) :L29_2 l0z l0 A B=RL29_2 L29_2 l0z l0 A B:=
 (congrArg (fun k=>WL29_2 k l0z l0 A B) (funext fun e=>funext fun st=>round_eq Try.prog hint (b:=(nav (List.reverse (.lp::PaL29_2)) (bodyOf Try.f29))) (fn:=Try.f29) (nt:=35) (T:=(Ta29 VL29_2)) [PaL29_2] rfl PaL29_2 e st rfl rfl rfl)).trans (L29_2g VL29_2 l0z l0 A B)
noncomputable def R30(A:Int)(B:Bool)(C:List T)(D:Bool) :Option Res:=
(bif D then
 some ((.t (.agg [.int .i64 0, .str ByteArray.empty, .int .i64 0])),⟨[(0, .var [.t (.list 3 B C), .t (.bool true)])],[500]⟩)
else
(bif (decide ((C.length:Int)=0)) then
 some ((.t (.agg [.int .i64 0, .str ByteArray.empty, .int .i64 0])),⟨[(0, .var [.t (.list 3 B C), .t (.bool true)])],[500]⟩)
else
 needC (decide (0≤0)) fun _=>getT C ((0:Int)).toNat fun a=>asA a fun b=>consT b fun a c=>asI .i64 a fun b=>consT c fun a d=>asS a fun c=>consT d fun a c=>asI .i64 a fun d=>endT c <|
(bif (!decide (b=A)) then
 some ((.t (.agg [.int .i64 0, .str ByteArray.empty, .int .i64 0])),⟨[(0, .var [.t (.list 3 B C), .t (.bool true)])],[500]⟩)
else
 needC (decide (0≤0)) fun _=>getT C ((0:Int)).toNat fun a=>asA a fun b=>consT b fun a c=>asI .i64 a fun b=>consT c fun a d=>asS a fun c=>consT d fun a f=>asI .i64 a fun d=>endT f <| cutL C (some 1) none fun a=>some ((.t (.agg [.int .i64 b, .str c, .int .i64 d])),⟨[(0, .var [.t (.list 3 B a), .t (.bool D)])],[500]⟩))))
theorem eq30g(A:Int)(B:Bool)(C:List T)(D:Bool) :gE 30 0 47 Try.f30 [] [.ptr 0 0 0, .t (.int .i64 A)] ⟨[(0, .var [.t (.list 3 B C), .t (.bool D)])],[]⟩=R30 A B C D:=by kernel_rfl
theorem eq30(A:Int)(B:Bool)(C:List T)(D:Bool) :vr 30 0 [.ptr 0 0 0, .t (.int .i64 A)] ⟨[(0, .var [.t (.list 3 B C), .t (.bool D)])],[]⟩=R30 A B C D:=
 Eq.trans (call_eq Try.prog hint (fn:=Try.f30) (nt:=47) (T:=[]) [] rfl _ _ rfl rfl rfl rfl rfl) (eq30g A B C D)
noncomputable def R59 :Option Res:=some ((.t (.list 4 true [.agg [.str ⟨#[104,97,108,116]⟩, .int .i64 0, .int .i64 0, .int .i64 0], .agg [.str ⟨#[115,101,116]⟩, .int .i64 1, .int .i64 5, .int .i64 0], .agg [.str ⟨#[109,111,118,101]⟩, .int .i64 1, .int .i64 2, .int .i64 0], .agg [.str ⟨#[97,100,100]⟩, .int .i64 1, .int .i64 2, .int .i64 2], .agg [.str ⟨#[115,117,98]⟩, .int .i64 1, .int .i64 2, .int .i64 2], .agg [.str ⟨#[109,117,108]⟩, .int .i64 1, .int .i64 2, .int .i64 2], .agg [.str ⟨#[108,111,97,100]⟩, .int .i64 1, .int .i64 3, .int .i64 2], .agg [.str ⟨#[115,116,111,114,101]⟩, .int .i64 3, .int .i64 2, .int .i64 2], .agg [.str ⟨#[108,101,110]⟩, .int .i64 1, .int .i64 3, .int .i64 0], .agg [.str ⟨#[112,117,115,104]⟩, .int .i64 3, .int .i64 2, .int .i64 0], .agg [.str ⟨#[106,117,109,112]⟩, .int .i64 4, .int .i64 0, .int .i64 0], .agg [.str ⟨#[108,101,115,115]⟩, .int .i64 2, .int .i64 2, .int .i64 4], .agg [.str ⟨#[115,97,109,101]⟩, .int .i64 2, .int .i64 2, .int .i64 4]])),⟨[],[]⟩)
theorem eq59g :gE 59 0 30 Try.f59 [] [] ⟨[],[]⟩=R59:=by kernel_rfl
theorem eq59 :vr 59 0 [] ⟨[],[]⟩=R59:=
 Eq.trans (call_eq Try.prog hint (fn:=Try.f59) (nt:=30) (T:=[]) [] rfl _ _ rfl rfl rfl rfl rfl) (eq59g)
noncomputable def R60(A:ByteArray)(B C D:Int)(E:ByteArray) :Option Res:=some ((.t (.bool (decide ((A:ByteArray)=E)))),⟨[(0, .var [.t (.str E)])],[500]⟩)
theorem eq60g(A:ByteArray)(B C D:Int)(E:ByteArray) :gE 60 0 8 Try.f60 [] [.t (.agg [.str A, .int .i64 B, .int .i64 C, .int .i64 D]), .ptr 0 0 0] ⟨[(0, .var [.t (.str E)])],[]⟩=R60 A B C D E:=by kernel_rfl
theorem eq60(A:ByteArray)(B C D:Int)(E:ByteArray) :vr 60 0 [.t (.agg [.str A, .int .i64 B, .int .i64 C, .int .i64 D]), .ptr 0 0 0] ⟨[(0, .var [.t (.str E)])],[]⟩=R60 A B C D E:=
 Eq.trans (call_eq Try.prog hint (fn:=Try.f60) (nt:=8) (T:=[]) [] rfl _ _ rfl rfl rfl rfl rfl) (eq60g A B C D E)
noncomputable def R58(L58_2:YL58_2)(A:Bool)(B:List T)(C:ByteArray) :Option Res:=L58_2 (A) (B) ((B.length:Int)) (0) (C)
theorem eq58g(KL58_2:Env→St→Option Res)(A:Bool)(B:List T)(C:ByteArray) :gE 58 0 19 Try.f58 (Ta58 KL58_2) [.t (.list 4 A B), .fn 60 [] [.ptr 0 0 0]] ⟨[(0, .var [.t (.str C)])],[]⟩=R58 (WL58_2 KL58_2) A B C:=by kernel_rfl
theorem eq58(A:Bool)(B:List T)(C:ByteArray) :vr 58 0 [.t (.list 4 A B), .fn 60 [] [.ptr 0 0 0]] ⟨[(0, .var [.t (.str C)])],[]⟩=R58 L58_2 A B C:=
 Eq.trans (call_eq Try.prog hint (fn:=Try.f58) (nt:=19) (T:=(Ta58 VL58_2)) [PaL58_2] rfl _ _ rfl rfl rfl rfl rfl) (eq58g VL58_2 A B C)
noncomputable def RL58_2(L58_2:YL58_2)(s0z:Bool)(s0:List T)(A B:Int)(C:ByteArray) :Option Res:=
(bif (decide (B<A)) then
 needC (decide (0≤B)) fun _=>getT s0 (B).toNat fun a=>asA a fun b=>consT b fun a c=>asS a fun b=>consT c fun a d=>asI .i64 a fun c=>consT d fun a f=>asI .i64 a fun d=>consT f fun a g=>asI .i64 a fun f=>endT g <| callK (vr 60 0 [.t (.agg [.str b, .int .i64 c, .int .i64 d, .int .i64 f]), .ptr 0 0 0] ⟨[(0, .var [.t (.str C)])],[]⟩) fun a g=>asT a fun b=>asB b fun a=>consB 0 g fun b c=>asVar b fun d=>consV d fun b f=>asT b fun d=>asS d fun b=>endV f <| endB c <|
(bif a then
 some ((.t (.int .i64 B)),⟨[(0, .var [.t (.str b)])],[500]⟩)
else
 L58_2 (s0z) (s0) (A) ((IntKind.i64.wrap (B+1))) (b))
else
 some ((.t (.int .i64 (-1))),⟨[(0, .var [.t (.str C)])],[500]⟩))
theorem L58_2g(KL58_2:Env→St→Option Res)(s0z:Bool)(s0:List T)(A B:Int)(C:ByteArray) :WL58_2 (fun e st=>gP 58 0 19 Try.f58 (Ta58 KL58_2) (.lp::PaL58_2) e st) s0z s0 A B C=RL58_2 (WL58_2 KL58_2) s0z s0 A B C:=by kernel_rfl
theorem L58_2_eq(s0z:Bool)(s0:List T)(A B:Int)(C:ByteArray) :L58_2 s0z s0 A B C=RL58_2 L58_2 s0z s0 A B C:=
 (congrArg (fun k=>WL58_2 k s0z s0 A B C) (funext fun e=>funext fun st=>round_eq Try.prog hint (b:=(nav (List.reverse (.lp::PaL58_2)) (bodyOf Try.f58))) (fn:=Try.f58) (nt:=19) (T:=(Ta58 VL58_2)) [PaL58_2] rfl PaL58_2 e st rfl rfl rfl)).trans (L58_2g VL58_2 s0z s0 A B C)
noncomputable def R38(A:Int) :Option Res:=callK (vr 59 0 [] ⟨[],[]⟩) fun a b=>asT a fun c=>asL 4 c fun a d=>endB b <|
(bif (decide (A<0)) then
 some ((.tup [.t (.agg [.str ByteArray.empty, .int .i64 0, .int .i64 0, .int .i64 0]), .t (.bool false)]),⟨[],[]⟩)
else
(bif (decide ((d.length:Int)≤A)) then
 some ((.tup [.t (.agg [.str ByteArray.empty, .int .i64 0, .int .i64 0, .int .i64 0]), .t (.bool false)]),⟨[],[]⟩)
else
 needC (decide (0≤A)) fun _=>getT d (A).toNat fun a=>asA a fun b=>consT b fun a c=>asS a fun b=>consT c fun a d=>asI .i64 a fun c=>consT d fun a f=>asI .i64 a fun d=>consT f fun a g=>asI .i64 a fun f=>endT g <| some ((.tup [.t (.agg [.str b, .int .i64 c, .int .i64 d, .int .i64 f]), .t (.bool true)]),⟨[],[]⟩)))
theorem eq38g(A:Int) :gE 38 0 19 Try.f38 [] [.t (.int .i64 A)] ⟨[],[]⟩=R38 A:=by kernel_rfl
theorem eq38(A:Int) :vr 38 0 [.t (.int .i64 A)] ⟨[],[]⟩=R38 A:=
 Eq.trans (call_eq Try.prog hint (fn:=Try.f38) (nt:=19) (T:=[]) [] rfl _ _ rfl rfl rfl rfl rfl) (eq38g A)
noncomputable def R39(A B C D E:Int) :Option Res:=some ((.agg [.ptr 0 0 1, .ptr 0 0 2, .ptr 0 0 3]),⟨[(0, .var [.t (.int .i64 A), .t (.int .i64 B), .t (.int .i64 C), .t (.int .i64 D), .t (.int .i64 E)])],[500]⟩)
theorem eq39g(A B C D E:Int) :gE 39 0 13 Try.f39 [] [.ptr 0 0 0] ⟨[(0, .var [.t (.int .i64 A), .t (.int .i64 B), .t (.int .i64 C), .t (.int .i64 D), .t (.int .i64 E)])],[]⟩=R39 A B C D E:=by kernel_rfl
theorem eq39(A B C D E:Int) :vr 39 0 [.ptr 0 0 0] ⟨[(0, .var [.t (.int .i64 A), .t (.int .i64 B), .t (.int .i64 C), .t (.int .i64 D), .t (.int .i64 E)])],[]⟩=R39 A B C D E:=
 Eq.trans (call_eq Try.prog hint (fn:=Try.f39) (nt:=13) (T:=[]) [] rfl _ _ rfl rfl rfl rfl rfl) (eq39g A B C D E)
noncomputable def R87(A B:ByteArray) :Option Res:=
(bif (decide ((B.size:Int)≤(A.size:Int))) then
 subS A none (some (B.size:Int)) fun a=>some ((.t (.bool (decide ((a:ByteArray)=B)))),⟨[],[]⟩)
else
 some ((.t (.bool false)),⟨[],[]⟩))
theorem eq87g(A B:ByteArray) :gE 87 0 18 Try.f87 [] [.t (.str A), .t (.str B)] ⟨[],[]⟩=R87 A B:=by kernel_rfl
theorem eq87(A B:ByteArray) :vr 87 0 [.t (.str A), .t (.str B)] ⟨[],[]⟩=R87 A B:=
 Eq.trans (call_eq Try.prog hint (fn:=Try.f87) (nt:=18) (T:=[]) [] rfl _ _ rfl rfl rfl rfl rfl) (eq87g A B)
noncomputable def R85(A B:ByteArray) :Option Res:=callK (vr 87 0 [.t (.str A), .t (.str B)] ⟨[],[]⟩) fun a b=>asT a fun c=>asB c fun a=>endB b <|
(bif (!a) then
 some ((.tup [.t (.str A), .t (.bool false)]),⟨[],[]⟩)
else
 subS A (some (B.size:Int)) none fun a=>some ((.tup [.t (.str a), .t (.bool true)]),⟨[],[]⟩))
theorem eq85g(A B:ByteArray) :gE 85 0 15 Try.f85 [] [.t (.str A), .t (.str B)] ⟨[],[]⟩=R85 A B:=by kernel_rfl
theorem eq85(A B:ByteArray) :vr 85 0 [.t (.str A), .t (.str B)] ⟨[],[]⟩=R85 A B:=
 Eq.trans (call_eq Try.prog hint (fn:=Try.f85) (nt:=15) (T:=[]) [] rfl _ _ rfl rfl rfl rfl rfl) (eq85g A B)
noncomputable def R78(A B:ByteArray) :Option Res:=callK (vr 85 0 [.t (.str A), .t (.str B)] ⟨[],[]⟩) fun a b=>asTup a fun c=>consV c fun a d=>asT a fun c=>asS c fun a=>consV d fun c f=>asT c fun d=>asB d fun c=>endV f <| endB b <| some ((.tup [.t (.str a), .t (.bool c)]),⟨[],[]⟩)
theorem eq78g(A B:ByteArray) :gE 78 0 11 Try.f78 [] [.t (.str A), .t (.str B)] ⟨[],[]⟩=R78 A B:=by kernel_rfl
theorem eq78(A B:ByteArray) :vr 78 0 [.t (.str A), .t (.str B)] ⟨[],[]⟩=R78 A B:=
 Eq.trans (call_eq Try.prog hint (fn:=Try.f78) (nt:=11) (T:=[]) [] rfl _ _ rfl rfl rfl rfl rfl) (eq78g A B)
noncomputable def R61(A:ByteArray)(B:Bool)(C:List T)(D:Bool) :Option Res:=callK (vr 30 0 [.ptr 0 0 0, .t (.int .i64 1)] (Z1 B C D)) fun a b=>asT a fun c=>asA c fun a=>consT a fun c d=>asI .i64 c fun a=>consT d fun a c=>asS a fun d=>consT c fun a f=>asI .i64 a fun c=>endT f <| consB 0 b fun a c=>asVar a fun b=>consV b fun a f=>asT a fun b=>asL 3 b fun a g=>consV f fun b h=>asT b fun f=>asB f fun b=>endV h <| endB c <| callK (vr 78 0 [.t (.str d), .t (.str A)] ⟨[],[]⟩) fun c f=>asTup c fun d=>consV d fun c h=>asT c fun d=>asS d fun c=>consV h fun d i=>
 asT d fun h=>asB h fun d=>endV i <| endB f <| callK (vr 77 0 [.t (.str c)] ⟨[],[]⟩) fun f h=>asTup f fun c=>consV c fun f i=>asT f fun c=>asI .i64 c fun f=>consV i fun c j=>asT c fun i=>asB i fun c=>endV j <| endB h <|
(bif (!d) then
 some ((.t (.int .i64 f)),⟨[(0, .var [.t (.list 3 a g), .t (.bool true)])],[500]⟩)
else
(bif (!c) then
 some ((.t (.int .i64 f)),⟨[(0, .var [.t (.list 3 a g), .t (.bool true)])],[500]⟩)
else
 some ((.t (.int .i64 f)),⟨[(0, .var [.t (.list 3 a g), .t (.bool b)])],[500]⟩)))
theorem eq61g(A:ByteArray)(B:Bool)(C:List T)(D:Bool) :gE 61 0 32 Try.f61 [] [.ptr 0 0 0, .t (.str A)] ⟨[(0, .var [.t (.list 3 B C), .t (.bool D)])],[]⟩=R61 A B C D:=by kernel_rfl
theorem eq61(A:ByteArray)(B:Bool)(C:List T)(D:Bool) :vr 61 0 [.ptr 0 0 0, .t (.str A)] ⟨[(0, .var [.t (.list 3 B C), .t (.bool D)])],[]⟩=R61 A B C D:=
 Eq.trans (call_eq Try.prog hint (fn:=Try.f61) (nt:=32) (T:=[]) [] rfl _ _ rfl rfl rfl rfl rfl) (eq61g A B C D)
noncomputable def R62(A:Bool)(B:List T)(C:Bool) :Option Res:=
(bif (decide ((B.length:Int)=0)) then
 callK (vr 30 0 [.ptr 0 0 0, .t (.int .i64 2)] (Z1 A B C)) fun a b=>asT a fun c=>asA c fun a=>consT a fun c d=>asI .i64 c fun a=>consT d fun a c=>asS a fun d=>consT c fun a d=>asI .i64 a fun c=>endT d <| consB 0 b fun a d=>asVar a fun b=>consV b fun a f=>asT a fun b=>asL 3 b fun a g=>consV f fun b h=>asT b fun f=>asB f fun b=>endV h <| endB d <| some ((.t (.int .i64 c)),⟨[(0, .var [.t (.list 3 a g), .t (.bool b)])],[500]⟩)
else
 needC (decide (0≤0)) fun _=>getT B ((0:Int)).toNat fun a=>asA a fun b=>consT b fun a c=>asI .i64 a fun b=>consT c fun a b=>asS a fun c=>consT b fun a d=>asI .i64 a fun b=>endT d <|
(bif (!decide ((c:ByteArray)=⟨#[45]⟩)) then
 callK (vr 30 0 [.ptr 0 0 0, .t (.int .i64 2)] (Z1 A B C)) fun a b=>asT a fun c=>asA c fun a=>consT a fun c d=>asI .i64 c fun a=>consT d fun a c=>asS a fun d=>consT c fun a d=>asI .i64 a fun c=>endT d <| consB 0 b fun a d=>asVar a fun b=>consV b fun a f=>asT a fun b=>asL 3 b fun a g=>consV f fun b h=>asT b fun f=>asB f fun b=>endV h <| endB d <| some ((.t (.int .i64 c)),⟨[(0, .var [.t (.list 3 a g), .t (.bool b)])],[500]⟩)
else
 callK (vr 30 0 [.ptr 0 0 0, .t (.int .i64 3)] (Z1 A B C)) fun a b=>asT a fun c=>asA c fun a=>consT a fun c d=>asI .i64 c fun a=>consT d fun a c=>asS a fun d=>consT c fun a d=>asI .i64 a fun c=>endT d <| consB 0 b fun a c=>asVar a fun b=>consV b fun a d=>asT a fun b=>asL 3 b fun a f=>consV d fun b g=>asT b fun d=>asB d fun b=>endV g <| endB c <| callK (vr 30 0 [.ptr 0 0 0, .t (.int .i64 2)] (Z1 a f b)) fun c d=>asT c fun a=>asA a fun b=>consT b fun a c=>asI .i64 a fun b=>consT c fun a b=>asS a fun c=>consT b fun a c=>asI .i64 a fun b=>endT c <|
 consB 0 d fun a c=>asVar a fun d=>consV d fun a f=>asT a fun d=>asL 3 d fun a g=>consV f fun d h=>asT d fun f=>asB f fun d=>endV h <| endB c <|
(bif (decide (b=0)) then
 some ((.t (.int .i64 (IntKind.i64.wrap (0 - b)))),⟨[(0, .var [.t (.list 3 a g), .t (.bool true)])],[500]⟩)
else
 some ((.t (.int .i64 (IntKind.i64.wrap (0 - b)))),⟨[(0, .var [.t (.list 3 a g), .t (.bool d)])],[500]⟩))))
theorem eq62g(A:Bool)(B:List T)(C:Bool) :gE 62 0 35 Try.f62 [] [.ptr 0 0 0] ⟨[(0, .var [.t (.list 3 A B), .t (.bool C)])],[]⟩=R62 A B C:=by kernel_rfl
theorem eq62(A:Bool)(B:List T)(C:Bool) :vr 62 0 [.ptr 0 0 0] ⟨[(0, .var [.t (.list 3 A B), .t (.bool C)])],[]⟩=R62 A B C:=
 Eq.trans (call_eq Try.prog hint (fn:=Try.f62) (nt:=35) (T:=[]) [] rfl _ _ rfl rfl rfl rfl rfl) (eq62g A B C)
noncomputable def RH31_7_1(J31_6:YJ31_6)(A:Bool)(B:List T)(C:Bool)(D E F G H:Int)(I:ByteArray)(J K L:Int) :Option Res:=some ((.t (.agg [.int .i64 D, .int .i64 E, .int .i64 F, .int .i64 G, .int .i64 H])),⟨[(0, .var [.t (.list 3 A B), .t (.bool C)])],[500]⟩)
noncomputable def RH31_7_2(J31_6:YJ31_6)(A:Bool)(B:List T)(C:Bool)(D E F G H:Int)(I:ByteArray)(J K L:Int) :Option Res:=
(bif (decide (L=1)) then
 callK (vr 61 0 [.ptr 0 0 0, .t (.str ⟨#[114]⟩)] (Z1 A B C)) fun a b=>asT a fun c=>asI .i64 c fun a=>consB 0 b fun c d=>asVar c fun b=>consV b fun c f=>asT c fun b=>asL 3 b fun c g=>consV f fun b h=>asT b fun f=>asB f fun b=>endV h <| endB d <| RH31_7_1 J31_6 (c) (g) (b) (D) (E) (F) (a) (H) (I) (J) (K) (L)
else
(bif (decide (L=2)) then
 callK (vr 61 0 [.ptr 0 0 0, .t (.str ⟨#[114]⟩)] (Z1 A B C)) fun a b=>asT a fun c=>asI .i64 c fun a=>consB 0 b fun c d=>asVar c fun b=>consV b fun c f=>asT c fun b=>asL 3 b fun c g=>consV f fun b h=>asT b fun f=>asB f fun b=>endV h <| endB d <| RH31_7_1 J31_6 (c) (g) (b) (D) (E) (F) (a) (H) (I) (J) (K) (L)
else
(bif (decide (L=3)) then
 callK (vr 61 0 [.ptr 0 0 0, .t (.str ⟨#[97]⟩)] (Z1 A B C)) fun a b=>asT a fun c=>asI .i64 c fun a=>consB 0 b fun c d=>asVar c fun b=>consV b fun c f=>asT c fun b=>asL 3 b fun c g=>consV f fun b h=>asT b fun f=>asB f fun b=>endV h <| endB d <| RH31_7_1 J31_6 (c) (g) (b) (D) (E) (F) (a) (H) (I) (J) (K) (L)
else
(bif (decide (L=4)) then
 callK (vr 30 0 [.ptr 0 0 0, .t (.int .i64 2)] (Z1 A B C)) fun a b=>asT a fun c=>asA c fun a=>consT a fun c d=>asI .i64 c fun a=>consT d fun a c=>asS a fun d=>consT c fun a d=>asI .i64 a fun c=>endT d <| consB 0 b fun a d=>asVar a fun b=>consV b fun a f=>asT a fun b=>asL 3 b fun a g=>consV f fun b h=>asT b fun f=>asB f fun b=>endV h <| endB d <| RH31_7_1 J31_6 (a) (g) (b) (D) (E) (F) (c) (H) (I) (J) (K) (L)
else
(bif (decide (L=5)) then
 callK (vr 62 0 [.ptr 0 0 0] (Z1 A B C)) fun a b=>asT a fun c=>asI .i64 c fun a=>consB 0 b fun c d=>asVar c fun b=>consV b fun c f=>asT c fun b=>asL 3 b fun c g=>consV f fun b h=>asT b fun f=>asB f fun b=>endV h <| endB d <| RH31_7_1 J31_6 (c) (g) (b) (D) (E) (F) (G) (a) (I) (J) (K) (L)
else
 RH31_7_1 J31_6 (A) (B) (C) (D) (E) (F) (G) (H) (I) (J) (K) (L))))))
noncomputable def RH31_7_3(J31_6:YJ31_6)(A:Bool)(B:List T)(C:Bool)(D E F G H:Int)(I:ByteArray)(J K L:Int) :Option Res:=
(bif (decide (K=1)) then
 callK (vr 61 0 [.ptr 0 0 0, .t (.str ⟨#[114]⟩)] (Z1 A B C)) fun a b=>asT a fun c=>asI .i64 c fun a=>consB 0 b fun c d=>asVar c fun b=>consV b fun c f=>asT c fun b=>asL 3 b fun c g=>consV f fun b h=>asT b fun f=>asB f fun b=>endV h <| endB d <| RH31_7_2 J31_6 (c) (g) (b) (D) (E) (a) (G) (H) (I) (J) (K) (L)
else
(bif (decide (K=2)) then
 callK (vr 61 0 [.ptr 0 0 0, .t (.str ⟨#[114]⟩)] (Z1 A B C)) fun a b=>asT a fun c=>asI .i64 c fun a=>consB 0 b fun c d=>asVar c fun b=>consV b fun c f=>asT c fun b=>asL 3 b fun c g=>consV f fun b h=>asT b fun f=>asB f fun b=>endV h <| endB d <| RH31_7_2 J31_6 (c) (g) (b) (D) (E) (a) (G) (H) (I) (J) (K) (L)
else
(bif (decide (K=3)) then
 callK (vr 61 0 [.ptr 0 0 0, .t (.str ⟨#[97]⟩)] (Z1 A B C)) fun a b=>asT a fun c=>asI .i64 c fun a=>consB 0 b fun c d=>asVar c fun b=>consV b fun c f=>asT c fun b=>asL 3 b fun c g=>consV f fun b h=>asT b fun f=>asB f fun b=>endV h <| endB d <| RH31_7_2 J31_6 (c) (g) (b) (D) (E) (a) (G) (H) (I) (J) (K) (L)
else
(bif (decide (K=4)) then
 callK (vr 30 0 [.ptr 0 0 0, .t (.int .i64 2)] (Z1 A B C)) fun a b=>asT a fun c=>asA c fun a=>consT a fun c d=>asI .i64 c fun a=>consT d fun a c=>asS a fun d=>consT c fun a d=>asI .i64 a fun c=>endT d <| consB 0 b fun a d=>asVar a fun b=>consV b fun a f=>asT a fun b=>asL 3 b fun a g=>consV f fun b h=>asT b fun f=>asB f fun b=>endV h <| endB d <| RH31_7_2 J31_6 (a) (g) (b) (D) (E) (c) (G) (H) (I) (J) (K) (L)
else
(bif (decide (K=5)) then
 callK (vr 62 0 [.ptr 0 0 0] (Z1 A B C)) fun a b=>asT a fun c=>asI .i64 c fun a=>consB 0 b fun c d=>asVar c fun b=>consV b fun c f=>asT c fun b=>asL 3 b fun c g=>consV f fun b h=>asT b fun f=>asB f fun b=>endV h <| endB d <| RH31_7_2 J31_6 (c) (g) (b) (D) (E) (F) (G) (a) (I) (J) (K) (L)
else
 RH31_7_2 J31_6 (A) (B) (C) (D) (E) (F) (G) (H) (I) (J) (K) (L))))))
noncomputable def RH31_7_4(J31_6:YJ31_6)(A:Bool)(B:List T)(C:Bool)(D E F G H:Int)(I:ByteArray)(J K L:Int) :Option Res:=
(bif (decide (J=1)) then
 callK (vr 61 0 [.ptr 0 0 0, .t (.str ⟨#[114]⟩)] (Z1 A B C)) fun a b=>asT a fun c=>asI .i64 c fun a=>consB 0 b fun c d=>asVar c fun b=>consV b fun c f=>asT c fun b=>asL 3 b fun c g=>consV f fun b h=>asT b fun f=>asB f fun b=>endV h <| endB d <| RH31_7_3 J31_6 (c) (g) (b) (D) (a) (F) (G) (H) (I) (J) (K) (L)
else
(bif (decide (J=2)) then
 callK (vr 61 0 [.ptr 0 0 0, .t (.str ⟨#[114]⟩)] (Z1 A B C)) fun a b=>asT a fun c=>asI .i64 c fun a=>consB 0 b fun c d=>asVar c fun b=>consV b fun c f=>asT c fun b=>asL 3 b fun c g=>consV f fun b h=>asT b fun f=>asB f fun b=>endV h <| endB d <| RH31_7_3 J31_6 (c) (g) (b) (D) (a) (F) (G) (H) (I) (J) (K) (L)
else
(bif (decide (J=3)) then
 callK (vr 61 0 [.ptr 0 0 0, .t (.str ⟨#[97]⟩)] (Z1 A B C)) fun a b=>asT a fun c=>asI .i64 c fun a=>consB 0 b fun c d=>asVar c fun b=>consV b fun c f=>asT c fun b=>asL 3 b fun c g=>consV f fun b h=>asT b fun f=>asB f fun b=>endV h <| endB d <| RH31_7_3 J31_6 (c) (g) (b) (D) (a) (F) (G) (H) (I) (J) (K) (L)
else
(bif (decide (J=4)) then
 callK (vr 30 0 [.ptr 0 0 0, .t (.int .i64 2)] (Z1 A B C)) fun a b=>asT a fun c=>asA c fun a=>consT a fun c d=>asI .i64 c fun a=>consT d fun a c=>asS a fun d=>consT c fun a d=>asI .i64 a fun c=>endT d <| consB 0 b fun a d=>asVar a fun b=>consV b fun a f=>asT a fun b=>asL 3 b fun a g=>consV f fun b h=>asT b fun f=>asB f fun b=>endV h <| endB d <| RH31_7_3 J31_6 (a) (g) (b) (D) (c) (F) (G) (H) (I) (J) (K) (L)
else
(bif (decide (J=5)) then
 callK (vr 62 0 [.ptr 0 0 0] (Z1 A B C)) fun a b=>asT a fun c=>asI .i64 c fun a=>consB 0 b fun c d=>asVar c fun b=>consV b fun c f=>asT c fun b=>asL 3 b fun c g=>consV f fun b h=>asT b fun f=>asB f fun b=>endV h <| endB d <| RH31_7_3 J31_6 (c) (g) (b) (D) (E) (F) (G) (a) (I) (J) (K) (L)
else
 RH31_7_3 J31_6 (A) (B) (C) (D) (E) (F) (G) (H) (I) (J) (K) (L))))))
noncomputable def R31(J31_6:YJ31_6)(A:Bool)(B:List T)(C:Bool) :Option Res:=callK (vr 30 0 [.ptr 0 0 0, .t (.int .i64 1)] (Z1 A B C)) fun a b=>asT a fun c=>asA c fun a=>consT a fun c d=>asI .i64 c fun a=>consT d fun a c=>asS a fun d=>consT c fun a f=>asI .i64 a fun c=>endT f <| consB 0 b fun a c=>asVar a fun b=>consV b fun a f=>asT a fun b=>asL 3 b fun a g=>consV f fun b h=>asT b fun f=>asB f fun b=>endV h <| endB c <| callK (vr 59 0 [] ⟨[],[]⟩) fun c f=>asT c fun h=>asL 4 h fun c i=>endB f <| callK (vr 58 0 [.t (.list 4 c i), .fn 60 [] [.ptr 0 0 0]] ⟨[(0, .var [.t (.str d)])],[]⟩) fun f h=>
 asT f fun c=>asI .i64 c fun d=>consB 0 h fun c f=>asVar c fun h=>consV h fun c i=>asT c fun h=>asS h fun c=>endV i <| endB f <| callK (vr 38 0 [.t (.int .i64 d)] ⟨[],[]⟩) fun c f=>asTup c fun h=>consV h fun c i=>asT c fun h=>asA h fun c=>consT c fun h j=>asS h fun c=>consT j fun h k=>asI .i64 h fun j=>consT k fun h l=>asI .i64 h fun k=>consT l fun h m=>asI .i64 h fun l=>endT m <| consV i fun h m=>asT h fun i=>asB i fun h=>endV m <| endB f <|
(bif (!h) then
 J31_6 (a) (g) (true) (d) (0) (0) (0) (0) (c) (j) (k) (l)
else
 J31_6 (a) (g) (b) (d) (0) (0) (0) (0) (c) (j) (k) (l))
theorem eq31g(KJ31_6:Env→St→Option Res)(A:Bool)(B:List T)(C:Bool) :gE 31 0 62 Try.f31 (Ta31 KJ31_6) [.ptr 0 0 0] ⟨[(0, .var [.t (.list 3 A B), .t (.bool C)])],[]⟩=R31 (WJ31_6 KJ31_6) A B C:=by kernel_rfl
theorem eq31(A:Bool)(B:List T)(C:Bool) :vr 31 0 [.ptr 0 0 0] ⟨[(0, .var [.t (.list 3 A B), .t (.bool C)])],[]⟩=R31 J31_6 A B C:=
 Eq.trans (call_eq Try.prog hint (fn:=Try.f31) (nt:=62) (T:=(Ta31 VJ31_6)) [PaJ31_6] rfl _ _ rfl rfl rfl rfl rfl) (eq31g VJ31_6 A B C)
noncomputable def RJ31_6(J31_6:YJ31_6)(A:Bool)(B:List T)(C:Bool)(D E F G H:Int)(I:ByteArray)(J K L:Int) :Option Res:=callK (vr 39 0 [.ptr 0 0 0] ⟨[(0, .var [.t (.int .i64 D), .t (.int .i64 E), .t (.int .i64 F), .t (.int .i64 G), .t (.int .i64 H)])],[]⟩) fun a b=>asG a fun c=>consV c fun a d=>isPtr 0 0 1 a <| consV d fun a c=>isPtr 0 0 2 a <| consV c fun a d=>isPtr 0 0 3 a <| endV d <| consB 0 b fun a c=>asVar a fun b=>consV b fun a d=>asT a fun b=>asI .i64 b fun a=>consV d fun b f=>asT b fun d=>asI .i64 d fun b=>consV f fun d g=>asT d fun f=>
 asI .i64 f fun d=>consV g fun f h=>asT f fun g=>asI .i64 g fun f=>consV h fun g i=>asT g fun h=>asI .i64 h fun g=>endV i <| endB c <| RH31_7_4 J31_6 (A) (B) (C) (a) (b) (d) (f) (g) (I) (J) (K) (L)
theorem J31_6g(KJ31_6:Env→St→Option Res)(A:Bool)(B:List T)(C:Bool)(D E F G H:Int)(I:ByteArray)(J K L:Int) :WJ31_6 (fun e st=>gP 31 0 62 Try.f31 (Ta31 KJ31_6) PaJ31_6 e st) A B C D E F G H I J K L=RJ31_6 (WJ31_6 KJ31_6) A B C D E F G H I J K L:=by kernel_rfl
theorem J31_6_eq(A:Bool)(B:List T)(C:Bool)(D E F G H:Int)(I:ByteArray)(J K L:Int) :J31_6 A B C D E F G H I J K L=RJ31_6 J31_6 A B C D E F G H I J K L:=
 (congrArg (fun k=>WJ31_6 k A B C D E F G H I J K L) (funext fun e=>funext fun st=>join_eq Try.prog hint (fn:=Try.f31) (nt:=62) (T:=(Ta31 VJ31_6)) [PaJ31_6] rfl PaJ31_6 e st rfl)).trans (J31_6g VJ31_6 A B C D E F G H I J K L)
noncomputable def R37(A B C D E F G H:Int)(I:Bool)(J:List T) :Option Res:=callK (vr 38 0 [.t (.int .i64 A)] ⟨[],[]⟩) fun a b=>asTup a fun c=>consV c fun a d=>asT a fun c=>asA c fun a=>consT a fun c f=>asS c fun a=>consT f fun a c=>asI .i64 a fun f=>consT c fun a g=>asI .i64 a fun c=>consT g fun a h=>asI .i64 a fun g=>endT h <| consV d fun a h=>asT a fun d=>asB d fun a=>endV h <| endB b <| callK (vr 39 0 [.ptr 0 0 0] ⟨[(0, .var [.t (.int .i64 A), .t (.int .i64 B), .t (.int .i64 C), .t (.int .i64 D), .t (.int .i64 E)])],[]⟩) fun b d=>asG b fun h=>
 consV h fun b i=>isPtr 0 0 1 b <| consV i fun b h=>isPtr 0 0 2 b <| consV h fun b i=>isPtr 0 0 3 b <| endV i <| consB 0 d fun b h=>asVar b fun d=>consV d fun b i=>asT b fun d=>asI .i64 d fun b=>consV i fun b d=>asT b fun i=>asI .i64 i fun b=>consV d fun i j=>asT i fun d=>asI .i64 d fun i=>consV j fun d k=>asT d fun j=>asI .i64 j fun d=>consV k fun j l=>asT j fun k=>asI .i64 k fun j=>endV l <| endB h <|
(bif a then
(bif (decide (0≤b)) then
 needC (decide (0≤f) &&decide (f<(6:Int))) fun _=>getT ([.int .i64 1, .int .i64 F, .int .i64 F, .int .i64 G, .int .i64 (J.length:Int), .int .i64 1]) ((0+(f).toNat*1)) fun a=>asI .i64 a fun f=>
(bif (decide (b<f)) then
(bif (decide (0≤i)) then
 needC (decide (0≤c) &&decide (c<(6:Int))) fun _=>getT ([.int .i64 1, .int .i64 F, .int .i64 F, .int .i64 G, .int .i64 (J.length:Int), .int .i64 1]) ((0+(c).toNat*1)) fun a=>asI .i64 a fun b=>
(bif (decide (i<b)) then
(bif (decide (0≤d)) then
 needC (decide (0≤g) &&decide (g<(6:Int))) fun _=>getT ([.int .i64 1, .int .i64 F, .int .i64 F, .int .i64 G, .int .i64 (J.length:Int), .int .i64 1]) ((0+(g).toNat*1)) fun a=>asI .i64 a fun b=>
(bif (!decide (c=5)) then
(bif (decide (d<b)) then
 some ((.t (.bool (decide (j=0)))),⟨[],[]⟩)
else
 some ((.t (.bool false)),⟨[],[]⟩))
else
(bif (decide (d<b)) then
(bif (decide ((-1000000000000000000)<j)) then
 some ((.t (.bool (decide (j<1000000000000000000)))),⟨[],[]⟩)
else
 some ((.t (.bool false)),⟨[],[]⟩))
else
 some ((.t (.bool false)),⟨[],[]⟩)))
else
(bif (!decide (c=5)) then
 some ((.t (.bool false)),⟨[],[]⟩)
else
 some ((.t (.bool false)),⟨[],[]⟩)))
else
(bif (!decide (c=5)) then
 some ((.t (.bool false)),⟨[],[]⟩)
else
 some ((.t (.bool false)),⟨[],[]⟩)))
else
(bif (!decide (c=5)) then
 some ((.t (.bool false)),⟨[],[]⟩)
else
 some ((.t (.bool false)),⟨[],[]⟩)))
else
(bif (!decide (c=5)) then
 some ((.t (.bool false)),⟨[],[]⟩)
else
 some ((.t (.bool false)),⟨[],[]⟩)))
else
(bif (!decide (c=5)) then
 some ((.t (.bool false)),⟨[],[]⟩)
else
 some ((.t (.bool false)),⟨[],[]⟩)))
else
(bif (!decide (c=5)) then
 some ((.t (.bool false)),⟨[],[]⟩)
else
 some ((.t (.bool false)),⟨[],[]⟩)))
theorem eq37g(A B C D E F G H:Int)(I:Bool)(J:List T) :gE 37 0 72 Try.f37 [] [.t (.agg [.int .i64 A, .int .i64 B, .int .i64 C, .int .i64 D, .int .i64 E]), .t (.agg [.int .i64 F, .int .i64 G, .int .i64 H, .list 5 I J])] ⟨[],[]⟩=R37 A B C D E F G H I J:=by kernel_rfl
theorem eq37(A B C D E F G H:Int)(I:Bool)(J:List T) :vr 37 0 [.t (.agg [.int .i64 A, .int .i64 B, .int .i64 C, .int .i64 D, .int .i64 E]), .t (.agg [.int .i64 F, .int .i64 G, .int .i64 H, .list 5 I J])] ⟨[],[]⟩=R37 A B C D E F G H I J:=
 Eq.trans (call_eq Try.prog hint (fn:=Try.f37) (nt:=72) (T:=[]) [] rfl _ _ rfl rfl rfl rfl rfl) (eq37g A B C D E F G H I J)
noncomputable def R36(A B C D E F G H:Int)(I:Bool)(J:List T) :Option Res:=callK (vr 37 0 [.t (.agg [.int .i64 A, .int .i64 B, .int .i64 C, .int .i64 D, .int .i64 E]), .t (.agg [.int .i64 F, .int .i64 G, .int .i64 H, .list 5 I J])] ⟨[],[]⟩) fun a b=>asT a fun c=>asB c fun a=>endB b <| some ((.t (.bool (!a))),⟨[(0, .var [.t (.int .i64 F), .t (.int .i64 G), .t (.int .i64 H), .t (.list 5 I J)])],[500]⟩)
theorem eq36g(A B C D E F G H:Int)(I:Bool)(J:List T) :gE 36 0 8 Try.f36 [] [.t (.agg [.int .i64 A, .int .i64 B, .int .i64 C, .int .i64 D, .int .i64 E]), .ptr 0 0 0] ⟨[(0, .var [.t (.int .i64 F), .t (.int .i64 G), .t (.int .i64 H), .t (.list 5 I J)])],[]⟩=R36 A B C D E F G H I J:=by kernel_rfl
theorem eq36(A B C D E F G H:Int)(I:Bool)(J:List T) :vr 36 0 [.t (.agg [.int .i64 A, .int .i64 B, .int .i64 C, .int .i64 D, .int .i64 E]), .ptr 0 0 0] ⟨[(0, .var [.t (.int .i64 F), .t (.int .i64 G), .t (.int .i64 H), .t (.list 5 I J)])],[]⟩=R36 A B C D E F G H I J:=
 Eq.trans (call_eq Try.prog hint (fn:=Try.f36) (nt:=8) (T:=[]) [] rfl _ _ rfl rfl rfl rfl rfl) (eq36g A B C D E F G H I J)
noncomputable def R68(L68_2:YL68_2)(A:Bool)(B:List T)(C D E:Int)(F:Bool)(G:List T) :Option Res:=L68_2 (A) (B) ((B.length:Int)) (0) (C) (D) (E) (F) (G)
theorem eq68g(KL68_2:Env→St→Option Res)(A:Bool)(B:List T)(C D E:Int)(F:Bool)(G:List T) :gE 68 0 19 Try.f68 (Ta68 KL68_2) [.t (.list 5 A B), .fn 36 [] [.ptr 0 0 0]] ⟨[(0, .var [.t (.int .i64 C), .t (.int .i64 D), .t (.int .i64 E), .t (.list 5 F G)])],[]⟩=R68 (WL68_2 KL68_2) A B C D E F G:=by kernel_rfl
theorem eq68(A:Bool)(B:List T)(C D E:Int)(F:Bool)(G:List T) :vr 68 0 [.t (.list 5 A B), .fn 36 [] [.ptr 0 0 0]] ⟨[(0, .var [.t (.int .i64 C), .t (.int .i64 D), .t (.int .i64 E), .t (.list 5 F G)])],[]⟩=R68 L68_2 A B C D E F G:=
 Eq.trans (call_eq Try.prog hint (fn:=Try.f68) (nt:=19) (T:=(Ta68 VL68_2)) [PaL68_2] rfl _ _ rfl rfl rfl rfl rfl) (eq68g VL68_2 A B C D E F G)
noncomputable def RL68_2(L68_2:YL68_2)(s0z:Bool)(s0:List T)(A B C D E:Int)(F:Bool)(G:List T) :Option Res:=
(bif (decide (B<A)) then
 needC (decide (0≤B)) fun _=>getT s0 (B).toNat fun a=>asA a fun b=>consT b fun a c=>asI .i64 a fun b=>consT c fun a d=>asI .i64 a fun c=>consT d fun a f=>asI .i64 a fun d=>consT f fun a g=>asI .i64 a fun f=>consT g fun a h=>asI .i64 a fun g=>endT h <| callK (vr 36 0 [.t (.agg [.int .i64 b, .int .i64 c, .int .i64 d, .int .i64 f, .int .i64 g]), .ptr 0 0 0] ⟨[(0, .var [.t (.int .i64 C), .t (.int .i64 D), .t (.int .i64 E), .t (.list 5 F G)])],[]⟩) fun a h=>asT a fun b=>asB b fun a=>consB 0 h fun b c=>asVar b fun d=>consV d fun b f=>asT b fun d=>asI .i64 d fun b=>
 consV f fun d g=>asT d fun f=>asI .i64 f fun d=>consV g fun f h=>asT f fun g=>asI .i64 g fun f=>consV h fun g i=>asT g fun h=>asL 5 h fun g j=>endV i <| endB c <|
(bif a then
 some ((.t (.int .i64 B)),⟨[(0, .var [.t (.int .i64 b), .t (.int .i64 d), .t (.int .i64 f), .t (.list 5 g j)])],[500]⟩)
else
 L68_2 (s0z) (s0) (A) ((IntKind.i64.wrap (B+1))) (b) (d) (f) (g) (j))
else
 some ((.t (.int .i64 (-1))),⟨[(0, .var [.t (.int .i64 C), .t (.int .i64 D), .t (.int .i64 E), .t (.list 5 F G)])],[500]⟩))
theorem L68_2g(KL68_2:Env→St→Option Res)(s0z:Bool)(s0:List T)(A B C D E:Int)(F:Bool)(G:List T) :WL68_2 (fun e st=>gP 68 0 19 Try.f68 (Ta68 KL68_2) (.lp::PaL68_2) e st) s0z s0 A B C D E F G=RL68_2 (WL68_2 KL68_2) s0z s0 A B C D E F G:=by kernel_rfl
theorem L68_2_eq(s0z:Bool)(s0:List T)(A B C D E:Int)(F:Bool)(G:List T) :L68_2 s0z s0 A B C D E F G=RL68_2 L68_2 s0z s0 A B C D E F G:=
 (congrArg (fun k=>WL68_2 k s0z s0 A B C D E F G) (funext fun e=>funext fun st=>round_eq Try.prog hint (b:=(nav (List.reverse (.lp::PaL68_2)) (bodyOf Try.f68))) (fn:=Try.f68) (nt:=19) (T:=(Ta68 VL68_2)) [PaL68_2] rfl PaL68_2 e st rfl rfl rfl)).trans (L68_2g VL68_2 s0z s0 A B C D E F G)
noncomputable def R35(A:Bool)(B:List T)(C D E:Int)(F:Bool)(G:List T) :Option Res:=callK (vr 68 0 [.t (.list 5 A B), .fn 36 [] [.ptr 0 0 0]] ⟨[(0, .var [.t (.int .i64 C), .t (.int .i64 D), .t (.int .i64 E), .t (.list 5 F G)])],[]⟩) fun a b=>asT a fun c=>asI .i64 c fun a=>consB 0 b fun c d=>asVar c fun b=>consV b fun c f=>asT c fun b=>asI .i64 b fun c=>consV f fun b g=>asT b fun f=>asI .i64 f fun b=>consV g fun f h=>asT f fun g=>asI .i64 g fun f=>consV h fun g i=>asT g fun h=>asL 5 h fun g j=>endV i <| endB d <| some ((.t (.bool (decide (0≤a)))),⟨[(0, .var [.t (.int .i64 c), .t (.int .i64 b), .t (.int .i64 f), .t (.list 5 g j)])],[500]⟩)
theorem eq35g(A:Bool)(B:List T)(C D E:Int)(F:Bool)(G:List T) :gE 35 0 9 Try.f35 [] [.t (.list 5 A B), .fn 36 [] [.ptr 0 0 0]] ⟨[(0, .var [.t (.int .i64 C), .t (.int .i64 D), .t (.int .i64 E), .t (.list 5 F G)])],[]⟩=R35 A B C D E F G:=by kernel_rfl
theorem eq35(A:Bool)(B:List T)(C D E:Int)(F:Bool)(G:List T) :vr 35 0 [.t (.list 5 A B), .fn 36 [] [.ptr 0 0 0]] ⟨[(0, .var [.t (.int .i64 C), .t (.int .i64 D), .t (.int .i64 E), .t (.list 5 F G)])],[]⟩=R35 A B C D E F G:=
 Eq.trans (call_eq Try.prog hint (fn:=Try.f35) (nt:=9) (T:=[]) [] rfl _ _ rfl rfl rfl rfl rfl) (eq35g A B C D E F G)
noncomputable def R14(A B C:Int)(D:Bool)(E:List T) :Option Res:=
(bif (decide (0≤A)) then
(bif (decide (A≤128)) then
(bif (decide (0≤B)) then
(bif (decide (B≤128)) then
(bif (decide (0≤C)) then
(bif (!(decide (C≤B))) then
 some ((.t (.int .i64 1)),⟨[],[]⟩)
else
(bif (decide ((E.length:Int)=0)) then
 some ((.t (.int .i64 1)),⟨[],[]⟩)
else
(bif (decide (4096<(E.length:Int))) then
 some ((.t (.int .i64 1)),⟨[],[]⟩)
else
 callK (vr 35 0 [.t (.list 5 D E), .fn 36 [] [.ptr 0 0 0]] ⟨[(0, .var [.t (.int .i64 A), .t (.int .i64 B), .t (.int .i64 C), .t (.list 5 D E)])],[]⟩) fun a b=>asT a fun c=>asB c fun a=>consB 0 b fun c d=>asVar c fun b=>consV b fun c f=>asT c fun b=>asI .i64 b fun c=>consV f fun b c=>asT b fun f=>asI .i64 f fun b=>consV c fun b f=>asT b fun c=>asI .i64 c fun b=>consV f fun b c=>asT b fun f=>asL 5 f fun b g=>endV c <| endB d <|
(bif a then
 some ((.t (.int .i64 1)),⟨[],[]⟩)
else
 needC (decide (0≤(IntKind.i64.wrap ((g.length:Int) - 1)))) fun _=>getT g ((IntKind.i64.wrap ((g.length:Int) - 1))).toNat fun a=>asA a fun b=>consT b fun a c=>asI .i64 a fun b=>consT c fun a d=>asI .i64 a fun c=>consT d fun a c=>asI .i64 a fun d=>consT c fun a d=>asI .i64 a fun c=>consT d fun a c=>asI .i64 a fun d=>endT c <|
(bif (!decide (b=0)) then
(bif (!decide (b=10)) then
 some ((.t (.int .i64 1)),⟨[],[]⟩)
else
 some ((.t (.int .i64 0)),⟨[],[]⟩))
else
 some ((.t (.int .i64 0)),⟨[],[]⟩))))))
else
 some ((.t (.int .i64 1)),⟨[],[]⟩))
else
 some ((.t (.int .i64 1)),⟨[],[]⟩))
else
 some ((.t (.int .i64 1)),⟨[],[]⟩))
else
 some ((.t (.int .i64 1)),⟨[],[]⟩))
else
 some ((.t (.int .i64 1)),⟨[],[]⟩))
theorem eq14g(A B C:Int)(D:Bool)(E:List T) :gE 14 0 70 Try.f14 [] [.t (.agg [.int .i64 A, .int .i64 B, .int .i64 C, .list 5 D E])] ⟨[],[]⟩=R14 A B C D E:=by kernel_rfl
theorem eq14(A B C:Int)(D:Bool)(E:List T) :vr 14 0 [.t (.agg [.int .i64 A, .int .i64 B, .int .i64 C, .list 5 D E])] ⟨[],[]⟩=R14 A B C D E:=
 Eq.trans (call_eq Try.prog hint (fn:=Try.f14) (nt:=70) (T:=[]) [] rfl _ _ rfl rfl rfl rfl rfl) (eq14g A B C D E)
noncomputable def R10(L10_8:YL10_8)(J10_17:YJ10_17)(A:ByteArray) :Option Res:=callK (vr 28 0 [.t (.str A)] ⟨[],[]⟩) fun a b=>asTup a fun c=>consV c fun a d=>asT a fun c=>asL 3 c fun a f=>consV d fun c g=>asT c fun d=>asI .i64 d fun c=>consV g fun d h=>asT d fun g=>asI .i64 g fun d=>endV h <| endB b <|
(bif (!decide (d=0)) then
 some ((.tup [.t (.agg [.int .i64 0, .int .i64 0, .int .i64 0, .list 5 false []]), .t (.int .i64 c), .t (.int .i64 d)]),⟨[],[]⟩)
else
 callK (vr 29 0 [.t (.list 3 a f)] ⟨[],[]⟩) fun b c=>asT b fun a=>asL 1 a fun b d=>endB c <|
(bif (decide ((d.length:Int)=0)) then
 Z0
else
 L10_8 (b) (d) (b) (d) ((d.length:Int)) (0) (0) (0) (0) (false) ([])))
theorem eq10g(KL10_8 KJ10_17:Env→St→Option Res)(A:ByteArray) :gE 10 0 92 Try.f10 (Ta10 KL10_8 KJ10_17) [.t (.str A)] ⟨[],[]⟩=R10 (WL10_8 KL10_8) (WJ10_17 KJ10_17) A:=by kernel_rfl
theorem eq10(A:ByteArray) :vr 10 0 [.t (.str A)] ⟨[],[]⟩=R10 L10_8 J10_17 A:=
 Eq.trans (call_eq Try.prog hint (fn:=Try.f10) (nt:=92) (T:=(Ta10 VL10_8 VJ10_17)) [PaL10_8,PaJ10_17] rfl _ _ rfl rfl rfl rfl rfl) (eq10g VL10_8 VJ10_17 A)
noncomputable def RL10_8(L10_8:YL10_8)(J10_17:YJ10_17)(lines8z:Bool)(lines8:List T)(A:Bool)(B:List T)(C D E F G:Int)(H:Bool)(I:List T) :Option Res:=
(bif (decide (D<C)) then
 needC (decide (0≤D)) fun _=>getT B (D).toNat fun a=>asL 3 a fun b c=>
(bif (decide (D=0)) then
 callK (vr 30 0 [.ptr 0 0 0, .t (.int .i64 1)] ⟨[(0, .var [.t (.list 3 b c), .t (.bool false)])],[]⟩) fun a d=>asT a fun f=>asA f fun a=>consT a fun f g=>asI .i64 f fun a=>consT g fun a f=>asS a fun g=>consT f fun a h=>asI .i64 a fun f=>endT h <| consB 0 d fun a f=>asVar a fun d=>consV d fun a h=>asT a fun d=>asL 3 d fun a i=>consV h fun d j=>asT d fun h=>asB h fun d=>endV j <| endB f <| callK (vr 30 0 [.ptr 0 0 0, .t (.int .i64 2)] ⟨[(0, .var [.t (.list 3 a i), .t (.bool (!decide ((g:ByteArray)=⟨#[99,111,100,101]⟩)))])],[]⟩) fun d f=>asT d fun a=>
 asA a fun d=>consT d fun a g=>asI .i64 a fun d=>consT g fun a d=>asS a fun g=>consT d fun a g=>asI .i64 a fun d=>endT g <| consB 0 f fun a g=>asVar a fun f=>consV f fun a h=>asT a fun f=>asL 3 f fun a i=>consV h fun f j=>asT f fun h=>asB h fun f=>endV j <| endB g <| callK (vr 30 0 [.ptr 0 0 0, .t (.int .i64 2)] (Z1 a i f)) fun g h=>asT g fun a=>asA a fun f=>consT f fun a g=>asI .i64 a fun f=>consT g fun a f=>asS a fun g=>consT f fun a g=>asI .i64 a fun f=>endT g <| consB 0 h fun a g=>asVar a fun h=>consV h fun a i=>asT a fun h=>asL 3 h fun a j=>
 consV i fun h k=>asT h fun i=>asB i fun h=>endV k <| endB g <| callK (vr 30 0 [.ptr 0 0 0, .t (.int .i64 2)] (Z1 a j h)) fun g i=>asT g fun a=>asA a fun g=>consT g fun a h=>asI .i64 a fun g=>consT h fun a g=>asS a fun h=>consT g fun a h=>asI .i64 a fun g=>endT h <| consB 0 i fun a h=>asVar a fun i=>consV i fun a j=>asT a fun i=>asL 3 i fun a k=>consV j fun i l=>asT i fun j=>asB j fun i=>endV l <| endB h <| J10_17 (lines8z) (lines8) (D) (A) (B) (C) (D) (d) (f) (g) (H) (I) (a) (k) (i)
else
 callK (vr 31 0 [.ptr 0 0 0] ⟨[(0, .var [.t (.list 3 b c), .t (.bool false)])],[]⟩) fun a d=>asT a fun b=>asA b fun a=>consT a fun b c=>asI .i64 b fun a=>consT c fun b f=>asI .i64 b fun c=>consT f fun b g=>asI .i64 b fun f=>consT g fun b h=>asI .i64 b fun g=>consT h fun b i=>asI .i64 b fun h=>endT i <| consB 0 d fun b i=>asVar b fun d=>consV d fun b j=>asT b fun d=>asL 3 d fun b k=>consV j fun d l=>asT d fun j=>asB j fun d=>endV l <| endB i <| needC (decide ((I.length+1)*(40+1)≤70368744177664) &&decide (40≤1048576)) fun _=>J10_17 (lines8z) (lines8) (D) (A) (B) (C) (D) (E) (F) (G) ((H || true)) ((I++([.agg [.int .i64 a, .int .i64 c, .int .i64 f, .int .i64 g, .int .i64 h]]:List T))) (b) (k) (d))
else
 callK (vr 14 0 [.t (.agg [.int .i64 E, .int .i64 F, .int .i64 G, .list 5 H I])] ⟨[],[]⟩) fun a b=>asT a fun c=>asI .i64 c fun a=>endB b <|
(bif (!decide (a=0)) then
 some ((.tup [.t (.agg [.int .i64 0, .int .i64 0, .int .i64 0, .list 5 false []]), .t (.int .i64 0), .t (.int .i64 a)]),⟨[],[]⟩)
else
 some ((.tup [.t (.agg [.int .i64 E, .int .i64 F, .int .i64 G, .list 5 H I]), .t (.int .i64 (lines8.length:Int)), .t (.int .i64 0)]),⟨[],[]⟩)))
theorem L10_8g(KL10_8 KJ10_17:Env→St→Option Res)(lines8z:Bool)(lines8:List T)(A:Bool)(B:List T)(C D E F G:Int)(H:Bool)(I:List T) :WL10_8 (fun e st=>gP 10 0 92 Try.f10 (Ta10 KL10_8 KJ10_17) (.lp::PaL10_8) e st) lines8z lines8 A B C D E F G H I=RL10_8 (WL10_8 KL10_8) (WJ10_17 KJ10_17) lines8z lines8 A B C D E F G H I:=by kernel_rfl
theorem L10_8_eq(lines8z:Bool)(lines8:List T)(A:Bool)(B:List T)(C D E F G:Int)(H:Bool)(I:List T) :L10_8 lines8z lines8 A B C D E F G H I=RL10_8 L10_8 J10_17 lines8z lines8 A B C D E F G H I:=
 (congrArg (fun k=>WL10_8 k lines8z lines8 A B C D E F G H I) (funext fun e=>funext fun st=>round_eq Try.prog hint (b:=(nav (List.reverse (.lp::PaL10_8)) (bodyOf Try.f10))) (fn:=Try.f10) (nt:=92) (T:=(Ta10 VL10_8 VJ10_17)) [PaL10_8,PaJ10_17] rfl PaL10_8 e st rfl rfl rfl)).trans (L10_8g VL10_8 VJ10_17 lines8z lines8 A B C D E F G H I)
noncomputable def RJ10_17(L10_8:YL10_8)(J10_17:YJ10_17)(lines8z:Bool)(lines8:List T)(i9:Int)(A:Bool)(B:List T)(C D E F G:Int)(H:Bool)(I:List T)(J:Bool)(K:List T)(L:Bool) :Option Res:=
(bif L then
 some ((.tup [.t (.agg [.int .i64 0, .int .i64 0, .int .i64 0, .list 5 false []]), .t (.int .i64 i9), .t (.int .i64 6)]),⟨[],[]⟩)
else
(bif (decide (0<(K.length:Int))) then
 some ((.tup [.t (.agg [.int .i64 0, .int .i64 0, .int .i64 0, .list 5 false []]), .t (.int .i64 i9), .t (.int .i64 6)]),⟨[],[]⟩)
else
 L10_8 (lines8z) (lines8) (A) (B) (C) ((IntKind.i64.wrap (D+1))) (E) (F) (G) (H) (I)))
theorem J10_17g(KL10_8 KJ10_17:Env→St→Option Res)(lines8z:Bool)(lines8:List T)(i9:Int)(A:Bool)(B:List T)(C D E F G:Int)(H:Bool)(I:List T)(J:Bool)(K:List T)(L:Bool) :WJ10_17 (fun e st=>gP 10 0 92 Try.f10 (Ta10 KL10_8 KJ10_17) PaJ10_17 e st) lines8z lines8 i9 A B C D E F G H I J K L=RJ10_17 (WL10_8 KL10_8) (WJ10_17 KJ10_17) lines8z lines8 i9 A B C D E F G H I J K L:=by kernel_rfl
theorem J10_17_eq(lines8z:Bool)(lines8:List T)(i9:Int)(A:Bool)(B:List T)(C D E F G:Int)(H:Bool)(I:List T)(J:Bool)(K:List T)(L:Bool) :J10_17 lines8z lines8 i9 A B C D E F G H I J K L=RJ10_17 L10_8 J10_17 lines8z lines8 i9 A B C D E F G H I J K L:=
 (congrArg (fun k=>WJ10_17 k lines8z lines8 i9 A B C D E F G H I J K L) (funext fun e=>funext fun st=>join_eq Try.prog hint (fn:=Try.f10) (nt:=92) (T:=(Ta10 VL10_8 VJ10_17)) [PaL10_8,PaJ10_17] rfl PaJ10_17 e st rfl)).trans (J10_17g VL10_8 VJ10_17 lines8z lines8 i9 A B C D E F G H I J K L)
noncomputable def R9 :Option Res:=callK (vr 10 0 [.t (.str ⟨#[99,111,100,101,32,49,32,48,32,48,10,104,97,108,116]⟩)] ⟨[],[]⟩) fun a b=>asTup a fun c=>consV c fun a d=>asT a fun c=>asA c fun a=>consT a fun c f=>asI .i64 c fun a=>consT f fun c g=>asI .i64 c fun f=>consT g fun c h=>asI .i64 c fun g=>consT h fun c i=>asL 5 c fun h j=>endT i <| consV d fun c i=>asT c fun d=>asI .i64 d fun c=>consV i fun d k=>asT d fun i=>asI .i64 i fun d=>endV k <| endB b <|
(bif (decide (c=2)) then
(bif (decide (d=0)) then
(bif (decide (a=1)) then
(bif (decide ((j.length:Int)=1)) then
 callK (vr 14 0 [.t (.agg [.int .i64 a, .int .i64 f, .int .i64 g, .list 5 h j])] ⟨[],[]⟩) fun b c=>asT b fun a=>asI .i64 a fun b=>endB c <| some ((.t (.bool (decide (b=0)))),⟨[],[]⟩)
else
 some ((.t (.bool false)),⟨[],[]⟩))
else
 some ((.t (.bool false)),⟨[],[]⟩))
else
 some ((.t (.bool false)),⟨[],[]⟩))
else
 some ((.t (.bool false)),⟨[],[]⟩))
theorem eq9g :gE 9 0 31 Try.f9 [] [] ⟨[],[]⟩=R9:=by kernel_rfl
theorem eq9 :vr 9 0 [] ⟨[],[]⟩=R9:=
 Eq.trans (call_eq Try.prog hint (fn:=Try.f9) (nt:=31) (T:=[]) [] rfl _ _ rfl rfl rfl rfl rfl) (eq9g)
noncomputable def R63(A:Int) :Option Res:=
(bif (decide (97≤A)) then
(bif (decide (A≤122)) then
 some ((.t (.bool true)),⟨[],[]⟩)
else
(bif (decide (65≤A)) then
 some ((.t (.bool (decide (A≤90)))),⟨[],[]⟩)
else
 some ((.t (.bool false)),⟨[],[]⟩)))
else
(bif (decide (65≤A)) then
 some ((.t (.bool (decide (A≤90)))),⟨[],[]⟩)
else
 some ((.t (.bool false)),⟨[],[]⟩)))
theorem eq63g(A:Int) :gE 63 0 17 Try.f63 [] [.t (.int .u8 A)] ⟨[],[]⟩=R63 A:=by kernel_rfl
theorem eq63(A:Int) :vr 63 0 [.t (.int .u8 A)] ⟨[],[]⟩=R63 A:=
 Eq.trans (call_eq Try.prog hint (fn:=Try.f63) (nt:=17) (T:=[]) [] rfl _ _ rfl rfl rfl rfl rfl) (eq63g A)
noncomputable def R64(A:Int) :Option Res:=
(bif (decide (48≤A)) then
 some ((.t (.bool (decide (A≤57)))),⟨[],[]⟩)
else
 some ((.t (.bool false)),⟨[],[]⟩))
theorem eq64g(A:Int) :gE 64 0 9 Try.f64 [] [.t (.int .u8 A)] ⟨[],[]⟩=R64 A:=by kernel_rfl
theorem eq64(A:Int) :vr 64 0 [.t (.int .u8 A)] ⟨[],[]⟩=R64 A:=
 Eq.trans (call_eq Try.prog hint (fn:=Try.f64) (nt:=9) (T:=[]) [] rfl _ _ rfl rfl rfl rfl rfl) (eq64g A)
noncomputable def R79(L79_5:YL79_5)(A:ByteArray) :Option Res:=
(bif (decide ((A.size:Int)<1)) then
 some ((.tup [.t (.int .i64 0), .t (.bool false)]),⟨[],[]⟩)
else
(bif (decide (18<(A.size:Int))) then
 some ((.tup [.t (.int .i64 0), .t (.bool false)]),⟨[],[]⟩)
else
(bif (decide (1<(A.size:Int))) then
 needC (decide (0≤0) &&decide ((0:Int)<(A.size:Int))) fun _=>
(bif (decide ((((A:ByteArray)[((0:Int)).toNat]!).toNat:Int)=48)) then
 some ((.tup [.t (.int .i64 0), .t (.bool false)]),⟨[],[]⟩)
else
 L79_5 (A) (0) ((A.size:Int)) (0))
else
 L79_5 (A) (0) ((A.size:Int)) (0))))
theorem eq79g(KL79_5:Env→St→Option Res)(A:ByteArray) :gE 79 0 44 Try.f79 (Ta79 KL79_5) [.t (.str A)] ⟨[],[]⟩=R79 (WL79_5 KL79_5) A:=by kernel_rfl
theorem eq79(A:ByteArray) :vr 79 0 [.t (.str A)] ⟨[],[]⟩=R79 L79_5 A:=
 Eq.trans (call_eq Try.prog hint (fn:=Try.f79) (nt:=44) (T:=(Ta79 VL79_5)) [PaL79_5] rfl _ _ rfl rfl rfl rfl rfl) (eq79g VL79_5 A)
noncomputable def RL79_5(L79_5:YL79_5)(s0:ByteArray)(n4 A B:Int) :Option Res:=
(bif (decide (B<A)) then
 needC (decide (0≤B) &&decide (B<(s0.size:Int))) fun _=>callK (vr 64 0 [.t (.int .u8 (((s0:ByteArray)[(B).toNat]!).toNat:Int))] ⟨[],[]⟩) fun a b=>asT a fun c=>asB c fun a=>endB b <|
(bif (!a) then
 some ((.tup [.t (.int .i64 0), .t (.bool false)]),⟨[],[]⟩)
else
 needC (decide (0≤B) &&decide (B<(s0.size:Int))) fun _=>L79_5 (s0) ((IntKind.i64.wrap ((IntKind.i64.wrap ((10:Int)*n4))+(IntKind.i64.wrap (IntKind.u8.wrap ((((s0:ByteArray)[(B).toNat]!).toNat:Int) - 48)))))) (A) ((IntKind.i64.wrap (B+1))))
else
 some ((.tup [.t (.int .i64 n4), .t (.bool true)]),⟨[],[]⟩))
theorem L79_5g(KL79_5:Env→St→Option Res)(s0:ByteArray)(n4 A B:Int) :WL79_5 (fun e st=>gP 79 0 44 Try.f79 (Ta79 KL79_5) (.lp::PaL79_5) e st) s0 n4 A B=RL79_5 (WL79_5 KL79_5) s0 n4 A B:=by kernel_rfl
theorem L79_5_eq(s0:ByteArray)(n4 A B:Int) :L79_5 s0 n4 A B=RL79_5 L79_5 s0 n4 A B:=
 (congrArg (fun k=>WL79_5 k s0 n4 A B) (funext fun e=>funext fun st=>round_eq Try.prog hint (b:=(nav (List.reverse (.lp::PaL79_5)) (bodyOf Try.f79))) (fn:=Try.f79) (nt:=44) (T:=(Ta79 VL79_5)) [PaL79_5] rfl PaL79_5 e st rfl rfl rfl)).trans (L79_5g VL79_5 s0 n4 A B)
noncomputable def R80(L80_4:YL80_4)(A:ByteArray) :Option Res:=
(bif (decide ((A.size:Int)<1)) then
 some ((.t (.bool false)),⟨[],[]⟩)
else
(bif (decide (16<(A.size:Int))) then
 some ((.t (.bool false)),⟨[],[]⟩)
else
 needC (decide (0≤0) &&decide ((0:Int)<(A.size:Int))) fun _=>callK (vr 63 0 [.t (.int .u8 (((A:ByteArray)[((0:Int)).toNat]!).toNat:Int))] ⟨[],[]⟩) fun a b=>asT a fun c=>asB c fun a=>endB b <|
(bif (!a) then
 some ((.t (.bool false)),⟨[],[]⟩)
else
 L80_4 (A) ((A.size:Int)) (0))))
theorem eq80g(KL80_4:Env→St→Option Res)(A:ByteArray) :gE 80 0 36 Try.f80 (Ta80 KL80_4) [.t (.str A)] ⟨[],[]⟩=R80 (WL80_4 KL80_4) A:=by kernel_rfl
theorem eq80(A:ByteArray) :vr 80 0 [.t (.str A)] ⟨[],[]⟩=R80 L80_4 A:=
 Eq.trans (call_eq Try.prog hint (fn:=Try.f80) (nt:=36) (T:=(Ta80 VL80_4)) [PaL80_4] rfl _ _ rfl rfl rfl rfl rfl) (eq80g VL80_4 A)
noncomputable def RL80_4(L80_4:YL80_4)(s0:ByteArray)(A B:Int) :Option Res:=
(bif (decide (B<A)) then
 needC (decide (0≤B) &&decide (B<(s0.size:Int))) fun _=>callK (vr 63 0 [.t (.int .u8 (((s0:ByteArray)[(B).toNat]!).toNat:Int))] ⟨[],[]⟩) fun a b=>asT a fun c=>asB c fun a=>endB b <|
(bif (!a) then
 needC (decide (0≤B) &&decide (B<(s0.size:Int))) fun _=>callK (vr 64 0 [.t (.int .u8 (((s0:ByteArray)[(B).toNat]!).toNat:Int))] ⟨[],[]⟩) fun a b=>asT a fun c=>asB c fun a=>endB b <|
(bif (!a) then
 some ((.t (.bool false)),⟨[],[]⟩)
else
 L80_4 (s0) (A) ((IntKind.i64.wrap (B+1))))
else
 L80_4 (s0) (A) ((IntKind.i64.wrap (B+1))))
else
 some ((.t (.bool true)),⟨[],[]⟩))
theorem L80_4g(KL80_4:Env→St→Option Res)(s0:ByteArray)(A B:Int) :WL80_4 (fun e st=>gP 80 0 36 Try.f80 (Ta80 KL80_4) (.lp::PaL80_4) e st) s0 A B=RL80_4 (WL80_4 KL80_4) s0 A B:=by kernel_rfl
theorem L80_4_eq(s0:ByteArray)(A B:Int) :L80_4 s0 A B=RL80_4 L80_4 s0 A B:=
 (congrArg (fun k=>WL80_4 k s0 A B) (funext fun e=>funext fun st=>round_eq Try.prog hint (b:=(nav (List.reverse (.lp::PaL80_4)) (bodyOf Try.f80))) (fn:=Try.f80) (nt:=36) (T:=(Ta80 VL80_4)) [PaL80_4] rfl PaL80_4 e st rfl rfl rfl)).trans (L80_4g VL80_4 s0 A B)
noncomputable def R81(A:ByteArray) :Option Res:=
(bif (decide ((A:ByteArray)=⟨#[43]⟩)) then
 some ((.t (.bool true)),⟨[],[]⟩)
else
(bif (decide ((A:ByteArray)=⟨#[45]⟩)) then
 some ((.t (.bool true)),⟨[],[]⟩)
else
(bif (decide ((A:ByteArray)=⟨#[42]⟩)) then
 some ((.t (.bool true)),⟨[],[]⟩)
else
(bif (decide ((A:ByteArray)=⟨#[40]⟩)) then
 some ((.t (.bool true)),⟨[],[]⟩)
else
(bif (decide ((A:ByteArray)=⟨#[41]⟩)) then
 some ((.t (.bool true)),⟨[],[]⟩)
else
(bif (decide ((A:ByteArray)=⟨#[91]⟩)) then
 some ((.t (.bool true)),⟨[],[]⟩)
else
(bif (decide ((A:ByteArray)=⟨#[93]⟩)) then
 some ((.t (.bool true)),⟨[],[]⟩)
else
(bif (decide ((A:ByteArray)=⟨#[44]⟩)) then
 some ((.t (.bool true)),⟨[],[]⟩)
else
(bif (decide ((A:ByteArray)=⟨#[61]⟩)) then
 some ((.t (.bool true)),⟨[],[]⟩)
else
(bif (decide ((A:ByteArray)=⟨#[58]⟩)) then
 some ((.t (.bool true)),⟨[],[]⟩)
else
 some ((.t (.bool false)),⟨[],[]⟩)))))))))))
theorem eq81g(A:ByteArray) :gE 81 0 15 Try.f81 [] [.t (.str A)] ⟨[],[]⟩=R81 A:=by kernel_rfl
theorem eq81(A:ByteArray) :vr 81 0 [.t (.str A)] ⟨[],[]⟩=R81 A:=
 Eq.trans (call_eq Try.prog hint (fn:=Try.f81) (nt:=15) (T:=[]) [] rfl _ _ rfl rfl rfl rfl rfl) (eq81g A)
noncomputable def R65(A:ByteArray) :Option Res:=callK (vr 79 0 [.t (.str A)] ⟨[],[]⟩) fun a b=>asTup a fun c=>consV c fun a d=>asT a fun c=>asI .i64 c fun a=>consV d fun c f=>asT c fun d=>asB d fun c=>endV f <| endB b <|
(bif c then
 some ((.tup [.t (.agg [.int .i64 2, .str A, .int .i64 a]), .t (.bool true)]),⟨[],[]⟩)
else
 callK (vr 80 0 [.t (.str A)] ⟨[],[]⟩) fun a b=>asT a fun c=>asB c fun a=>endB b <|
(bif a then
 some ((.tup [.t (.agg [.int .i64 1, .str A, .int .i64 0]), .t (.bool true)]),⟨[],[]⟩)
else
 callK (vr 81 0 [.t (.str A)] ⟨[],[]⟩) fun a b=>asT a fun c=>asB c fun a=>endB b <|
(bif a then
 some ((.tup [.t (.agg [.int .i64 3, .str A, .int .i64 0]), .t (.bool true)]),⟨[],[]⟩)
else
 some ((.tup [.t (.agg [.int .i64 0, .str ByteArray.empty, .int .i64 0]), .t (.bool false)]),⟨[],[]⟩))))
theorem eq65g(A:ByteArray) :gE 65 0 24 Try.f65 [] [.t (.str A)] ⟨[],[]⟩=R65 A:=by kernel_rfl
theorem eq65(A:ByteArray) :vr 65 0 [.t (.str A)] ⟨[],[]⟩=R65 A:=
 Eq.trans (call_eq Try.prog hint (fn:=Try.f65) (nt:=24) (T:=[]) [] rfl _ _ rfl rfl rfl rfl rfl) (eq65g A)
noncomputable def R32(L32_6:YL32_6)(L32_12:YL32_12)(L32_15:YL32_15)(J32_22:YJ32_22)(A:ByteArray) :Option Res:=
(bif (decide (65536<(A.size:Int))) then
 some ((.tup [.t (.list 3 false []), .t (.int .i64 0), .t (.int .i64 2)]),⟨[],[]⟩)
else
 L32_6 (A) (false) (0) (false) ([]))
theorem eq32g(KL32_6 KL32_12 KL32_15 KJ32_22:Env→St→Option Res)(A:ByteArray) :gE 32 0 121 Try.f32 (Ta32 KL32_6 KL32_12 KL32_15 KJ32_22) [.t (.str A)] ⟨[],[]⟩=R32 (WL32_6 KL32_6) (WL32_12 KL32_12) (WL32_15 KL32_15) (WJ32_22 KJ32_22) A:=by kernel_rfl
theorem eq32(A:ByteArray) :vr 32 0 [.t (.str A)] ⟨[],[]⟩=R32 L32_6 L32_12 L32_15 J32_22 A:=
 Eq.trans (call_eq Try.prog hint (fn:=Try.f32) (nt:=121) (T:=(Ta32 VL32_6 VL32_12 VL32_15 VJ32_22)) [PaL32_6,PaL32_12,PaL32_15,PaJ32_22] rfl _ _ rfl rfl rfl rfl rfl) (eq32g VL32_6 VL32_12 VL32_15 VJ32_22 A)
noncomputable def RL32_6(L32_6:YL32_6)(L32_12:YL32_12)(L32_15:YL32_15)(J32_22:YJ32_22)(s0:ByteArray)(line6:Bool)(i7:Int)(A:Bool)(B:List T) :Option Res:=
(bif (decide (i7<(s0.size:Int))) then
 needC (decide (0≤i7) &&decide (i7<(s0.size:Int))) fun _=>
(bif (decide ((((s0:ByteArray)[(i7).toNat]!).toNat:Int)=32)) then
(bif line6 then
 L32_6 (s0) (true) ((IntKind.i64.wrap (i7+1))) (A) (B)
else
 L32_6 (s0) ((decide ((((s0:ByteArray)[(i7).toNat]!).toNat:Int)=10))) ((IntKind.i64.wrap (i7+1))) (A) (B))
else
(bif (decide ((((s0:ByteArray)[(i7).toNat]!).toNat:Int)=9)) then
(bif line6 then
 L32_6 (s0) (true) ((IntKind.i64.wrap (i7+1))) (A) (B)
else
 L32_6 (s0) ((decide ((((s0:ByteArray)[(i7).toNat]!).toNat:Int)=10))) ((IntKind.i64.wrap (i7+1))) (A) (B))
else
(bif (decide ((((s0:ByteArray)[(i7).toNat]!).toNat:Int)=10)) then
(bif line6 then
 L32_6 (s0) (true) ((IntKind.i64.wrap (i7+1))) (A) (B)
else
 L32_6 (s0) ((decide ((((s0:ByteArray)[(i7).toNat]!).toNat:Int)=10))) ((IntKind.i64.wrap (i7+1))) (A) (B))
else
(bif (decide ((((s0:ByteArray)[(i7).toNat]!).toNat:Int)=35)) then
 L32_12 (s0) (line6) (i7) (A) (B)
else
 L32_15 (s0) (line6) (i7) ((((s0:ByteArray)[(i7).toNat]!).toNat:Int)) (1) (A) (B)))))
else
(bif (decide (4096<(B.length:Int))) then
 some ((.tup [.t (.list 3 false []), .t (.int .i64 0), .t (.int .i64 2)]),⟨[],[]⟩)
else
 some ((.tup [.t (.list 3 A B), .t (.int .i64 (s0.size:Int)), .t (.int .i64 0)]),⟨[],[]⟩)))
theorem L32_6g(KL32_6 KL32_12 KL32_15 KJ32_22:Env→St→Option Res)(s0:ByteArray)(line6:Bool)(i7:Int)(A:Bool)(B:List T) :WL32_6 (fun e st=>gP 32 0 121 Try.f32 (Ta32 KL32_6 KL32_12 KL32_15 KJ32_22) (.lp::PaL32_6) e st) s0 line6 i7 A B=RL32_6 (WL32_6 KL32_6) (WL32_12 KL32_12) (WL32_15 KL32_15) (WJ32_22 KJ32_22) s0 line6 i7 A B:=by kernel_rfl
theorem L32_6_eq(s0:ByteArray)(line6:Bool)(i7:Int)(A:Bool)(B:List T) :L32_6 s0 line6 i7 A B=RL32_6 L32_6 L32_12 L32_15 J32_22 s0 line6 i7 A B:=
 (congrArg (fun k=>WL32_6 k s0 line6 i7 A B) (funext fun e=>funext fun st=>round_eq Try.prog hint (b:=(nav (List.reverse (.lp::PaL32_6)) (bodyOf Try.f32))) (fn:=Try.f32) (nt:=121) (T:=(Ta32 VL32_6 VL32_12 VL32_15 VJ32_22)) [PaL32_6,PaL32_12,PaL32_15,PaJ32_22] rfl PaL32_6 e st rfl rfl rfl)).trans (L32_6g VL32_6 VL32_12 VL32_15 VJ32_22 s0 line6 i7 A B)
noncomputable def RL32_12(L32_6:YL32_6)(L32_12:YL32_12)(L32_15:YL32_15)(J32_22:YJ32_22)(s0:ByteArray)(line6:Bool)(i7:Int)(A:Bool)(B:List T) :Option Res:=
(bif (decide (i7<(s0.size:Int))) then
 needC (decide (0≤i7) &&decide (i7<(s0.size:Int))) fun _=>
(bif (!decide ((((s0:ByteArray)[(i7).toNat]!).toNat:Int)=10)) then
 L32_12 (s0) (line6) ((IntKind.i64.wrap (i7+1))) (A) (B)
else
 L32_6 (s0) (line6) (i7) (A) (B))
else
 L32_6 (s0) (line6) (i7) (A) (B))
theorem L32_12g(KL32_6 KL32_12 KL32_15 KJ32_22:Env→St→Option Res)(s0:ByteArray)(line6:Bool)(i7:Int)(A:Bool)(B:List T) :WL32_12 (fun e st=>gP 32 0 121 Try.f32 (Ta32 KL32_6 KL32_12 KL32_15 KJ32_22) (.lp::PaL32_12) e st) s0 line6 i7 A B=RL32_12 (WL32_6 KL32_6) (WL32_12 KL32_12) (WL32_15 KL32_15) (WJ32_22 KJ32_22) s0 line6 i7 A B:=by kernel_rfl
theorem L32_12_eq(s0:ByteArray)(line6:Bool)(i7:Int)(A:Bool)(B:List T) :L32_12 s0 line6 i7 A B=RL32_12 L32_6 L32_12 L32_15 J32_22 s0 line6 i7 A B:=
 (congrArg (fun k=>WL32_12 k s0 line6 i7 A B) (funext fun e=>funext fun st=>round_eq Try.prog hint (b:=(nav (List.reverse (.lp::PaL32_12)) (bodyOf Try.f32))) (fn:=Try.f32) (nt:=121) (T:=(Ta32 VL32_6 VL32_12 VL32_15 VJ32_22)) [PaL32_6,PaL32_12,PaL32_15,PaJ32_22] rfl PaL32_12 e st rfl rfl rfl)).trans (L32_12g VL32_6 VL32_12 VL32_15 VJ32_22 s0 line6 i7 A B)
noncomputable def RL32_15(L32_6:YL32_6)(L32_12:YL32_12)(L32_15:YL32_15)(J32_22:YJ32_22)(s0:ByteArray)(line6:Bool)(i7 c8 n9:Int)(A:Bool)(B:List T) :Option Res:=callK (vr 63 0 [.t (.int .u8 c8)] ⟨[],[]⟩) fun a b=>asT a fun c=>asB c fun a=>endB b <|
(bif a then
(bif (decide ((IntKind.i64.wrap (i7+n9))<(s0.size:Int))) then
 needC (decide (0≤(IntKind.i64.wrap (i7+n9))) &&decide ((IntKind.i64.wrap (i7+n9))<(s0.size:Int))) fun _=>callK (vr 63 0 [.t (.int .u8 (((s0:ByteArray)[((IntKind.i64.wrap (i7+n9))).toNat]!).toNat:Int))] ⟨[],[]⟩) fun a b=>asT a fun c=>asB c fun a=>endB b <|
(bif a then
 L32_15 (s0) (line6) (i7) (c8) ((IntKind.i64.wrap (n9+1))) (A) (B)
else
 needC (decide (0≤(IntKind.i64.wrap (i7+n9))) &&decide ((IntKind.i64.wrap (i7+n9))<(s0.size:Int))) fun _=>callK (vr 64 0 [.t (.int .u8 (((s0:ByteArray)[((IntKind.i64.wrap (i7+n9))).toNat]!).toNat:Int))] ⟨[],[]⟩) fun a b=>asT a fun c=>asB c fun a=>endB b <|
(bif a then
 L32_15 (s0) (line6) (i7) (c8) ((IntKind.i64.wrap (n9+1))) (A) (B)
else
 subS s0 (some i7) (some (IntKind.i64.wrap (i7+n9))) fun a=>callK (vr 65 0 [.t (.str a)] ⟨[],[]⟩) fun b c=>asTup b fun a=>consV a fun b d=>asT b fun a=>asA a fun b=>consT b fun a f=>asI .i64 a fun b=>consT f fun a g=>asS a fun f=>consT g fun a h=>asI .i64 a fun g=>endT h <| consV d fun a h=>asT a fun d=>asB d fun a=>endV h <| endB c <|
(bif (!a) then
 some ((.tup [.t (.list 3 false []), .t (.int .i64 i7), .t (.int .i64 6)]),⟨[],[]⟩)
else
(bif line6 then
(bif (decide (0<(B.length:Int))) then
 needC (decide ((B.length+1)*(32+1)≤70368744177664) &&decide (32≤1048576)) fun _=>J32_22 (s0) (i7) (n9) ((A || true)) ((B++([.agg [.int .i64 4, .str ByteArray.empty, .int .i64 0]]:List T))) (b) (f) (g)
else
 J32_22 (s0) (i7) (n9) (A) (B) (b) (f) (g))
else
 J32_22 (s0) (i7) (n9) (A) (B) (b) (f) (g)))))
else
 subS s0 (some i7) (some (IntKind.i64.wrap (i7+n9))) fun a=>callK (vr 65 0 [.t (.str a)] ⟨[],[]⟩) fun b c=>asTup b fun a=>consV a fun b d=>asT b fun a=>asA a fun b=>consT b fun a f=>asI .i64 a fun b=>consT f fun a g=>asS a fun f=>consT g fun a h=>asI .i64 a fun g=>endT h <| consV d fun a h=>asT a fun d=>asB d fun a=>endV h <| endB c <|
(bif (!a) then
 some ((.tup [.t (.list 3 false []), .t (.int .i64 i7), .t (.int .i64 6)]),⟨[],[]⟩)
else
(bif line6 then
(bif (decide (0<(B.length:Int))) then
 needC (decide ((B.length+1)*(32+1)≤70368744177664) &&decide (32≤1048576)) fun _=>J32_22 (s0) (i7) (n9) ((A || true)) ((B++([.agg [.int .i64 4, .str ByteArray.empty, .int .i64 0]]:List T))) (b) (f) (g)
else
 J32_22 (s0) (i7) (n9) (A) (B) (b) (f) (g))
else
 J32_22 (s0) (i7) (n9) (A) (B) (b) (f) (g))))
else
 callK (vr 64 0 [.t (.int .u8 c8)] ⟨[],[]⟩) fun a b=>asT a fun c=>asB c fun a=>endB b <|
(bif a then
(bif (decide ((IntKind.i64.wrap (i7+n9))<(s0.size:Int))) then
 needC (decide (0≤(IntKind.i64.wrap (i7+n9))) &&decide ((IntKind.i64.wrap (i7+n9))<(s0.size:Int))) fun _=>callK (vr 63 0 [.t (.int .u8 (((s0:ByteArray)[((IntKind.i64.wrap (i7+n9))).toNat]!).toNat:Int))] ⟨[],[]⟩) fun a b=>asT a fun c=>asB c fun a=>endB b <|
(bif a then
 L32_15 (s0) (line6) (i7) (c8) ((IntKind.i64.wrap (n9+1))) (A) (B)
else
 needC (decide (0≤(IntKind.i64.wrap (i7+n9))) &&decide ((IntKind.i64.wrap (i7+n9))<(s0.size:Int))) fun _=>callK (vr 64 0 [.t (.int .u8 (((s0:ByteArray)[((IntKind.i64.wrap (i7+n9))).toNat]!).toNat:Int))] ⟨[],[]⟩) fun a b=>asT a fun c=>asB c fun a=>endB b <|
(bif a then
 L32_15 (s0) (line6) (i7) (c8) ((IntKind.i64.wrap (n9+1))) (A) (B)
else
 subS s0 (some i7) (some (IntKind.i64.wrap (i7+n9))) fun a=>callK (vr 65 0 [.t (.str a)] ⟨[],[]⟩) fun b c=>asTup b fun a=>consV a fun b d=>asT b fun a=>asA a fun b=>consT b fun a f=>asI .i64 a fun b=>consT f fun a g=>asS a fun f=>consT g fun a h=>asI .i64 a fun g=>endT h <| consV d fun a h=>asT a fun d=>asB d fun a=>endV h <| endB c <|
(bif (!a) then
 some ((.tup [.t (.list 3 false []), .t (.int .i64 i7), .t (.int .i64 6)]),⟨[],[]⟩)
else
(bif line6 then
(bif (decide (0<(B.length:Int))) then
 needC (decide ((B.length+1)*(32+1)≤70368744177664) &&decide (32≤1048576)) fun _=>J32_22 (s0) (i7) (n9) ((A || true)) ((B++([.agg [.int .i64 4, .str ByteArray.empty, .int .i64 0]]:List T))) (b) (f) (g)
else
 J32_22 (s0) (i7) (n9) (A) (B) (b) (f) (g))
else
 J32_22 (s0) (i7) (n9) (A) (B) (b) (f) (g)))))
else
 subS s0 (some i7) (some (IntKind.i64.wrap (i7+n9))) fun a=>callK (vr 65 0 [.t (.str a)] ⟨[],[]⟩) fun b c=>asTup b fun a=>consV a fun b d=>asT b fun a=>asA a fun b=>consT b fun a f=>asI .i64 a fun b=>consT f fun a g=>asS a fun f=>consT g fun a h=>asI .i64 a fun g=>endT h <| consV d fun a h=>asT a fun d=>asB d fun a=>endV h <| endB c <|
(bif (!a) then
 some ((.tup [.t (.list 3 false []), .t (.int .i64 i7), .t (.int .i64 6)]),⟨[],[]⟩)
else
(bif line6 then
(bif (decide (0<(B.length:Int))) then
 needC (decide ((B.length+1)*(32+1)≤70368744177664) &&decide (32≤1048576)) fun _=>J32_22 (s0) (i7) (n9) ((A || true)) ((B++([.agg [.int .i64 4, .str ByteArray.empty, .int .i64 0]]:List T))) (b) (f) (g)
else
 J32_22 (s0) (i7) (n9) (A) (B) (b) (f) (g))
else
 J32_22 (s0) (i7) (n9) (A) (B) (b) (f) (g))))
else
 subS s0 (some i7) (some (IntKind.i64.wrap (i7+n9))) fun a=>callK (vr 65 0 [.t (.str a)] ⟨[],[]⟩) fun b c=>asTup b fun a=>consV a fun b d=>asT b fun a=>asA a fun b=>consT b fun a f=>asI .i64 a fun b=>consT f fun a g=>asS a fun f=>consT g fun a h=>asI .i64 a fun g=>endT h <| consV d fun a h=>asT a fun d=>asB d fun a=>endV h <| endB c <|
(bif (!a) then
 some ((.tup [.t (.list 3 false []), .t (.int .i64 i7), .t (.int .i64 6)]),⟨[],[]⟩)
else
(bif line6 then
(bif (decide (0<(B.length:Int))) then
 needC (decide ((B.length+1)*(32+1)≤70368744177664) &&decide (32≤1048576)) fun _=>J32_22 (s0) (i7) (n9) ((A || true)) ((B++([.agg [.int .i64 4, .str ByteArray.empty, .int .i64 0]]:List T))) (b) (f) (g)
else
 J32_22 (s0) (i7) (n9) (A) (B) (b) (f) (g))
else
 J32_22 (s0) (i7) (n9) (A) (B) (b) (f) (g)))))
theorem L32_15g(KL32_6 KL32_12 KL32_15 KJ32_22:Env→St→Option Res)(s0:ByteArray)(line6:Bool)(i7 c8 n9:Int)(A:Bool)(B:List T) :WL32_15 (fun e st=>gP 32 0 121 Try.f32 (Ta32 KL32_6 KL32_12 KL32_15 KJ32_22) (.lp::PaL32_15) e st) s0 line6 i7 c8 n9 A B=RL32_15 (WL32_6 KL32_6) (WL32_12 KL32_12) (WL32_15 KL32_15) (WJ32_22 KJ32_22) s0 line6 i7 c8 n9 A B:=by kernel_rfl
theorem L32_15_eq(s0:ByteArray)(line6:Bool)(i7 c8 n9:Int)(A:Bool)(B:List T) :L32_15 s0 line6 i7 c8 n9 A B=RL32_15 L32_6 L32_12 L32_15 J32_22 s0 line6 i7 c8 n9 A B:=
 (congrArg (fun k=>WL32_15 k s0 line6 i7 c8 n9 A B) (funext fun e=>funext fun st=>round_eq Try.prog hint (b:=(nav (List.reverse (.lp::PaL32_15)) (bodyOf Try.f32))) (fn:=Try.f32) (nt:=121) (T:=(Ta32 VL32_6 VL32_12 VL32_15 VJ32_22)) [PaL32_6,PaL32_12,PaL32_15,PaJ32_22] rfl PaL32_15 e st rfl rfl rfl)).trans (L32_15g VL32_6 VL32_12 VL32_15 VJ32_22 s0 line6 i7 c8 n9 A B)
noncomputable def RJ32_22(L32_6:YL32_6)(L32_12:YL32_12)(L32_15:YL32_15)(J32_22:YJ32_22)(s0:ByteArray)(i7 n9:Int)(A:Bool)(B:List T)(C:Int)(D:ByteArray)(E:Int) :Option Res:=needC (decide ((B.length+1)*(32+1)≤70368744177664) &&decide (32≤1048576)) fun _=>L32_6 (s0) (false) ((IntKind.i64.wrap (i7+n9))) ((A || true)) ((B++([.agg [.int .i64 C, .str D, .int .i64 E]]:List T)))
theorem J32_22g(KL32_6 KL32_12 KL32_15 KJ32_22:Env→St→Option Res)(s0:ByteArray)(i7 n9:Int)(A:Bool)(B:List T)(C:Int)(D:ByteArray)(E:Int) :WJ32_22 (fun e st=>gP 32 0 121 Try.f32 (Ta32 KL32_6 KL32_12 KL32_15 KJ32_22) PaJ32_22 e st) s0 i7 n9 A B C D E=RJ32_22 (WL32_6 KL32_6) (WL32_12 KL32_12) (WL32_15 KL32_15) (WJ32_22 KJ32_22) s0 i7 n9 A B C D E:=by kernel_rfl
theorem J32_22_eq(s0:ByteArray)(i7 n9:Int)(A:Bool)(B:List T)(C:Int)(D:ByteArray)(E:Int) :J32_22 s0 i7 n9 A B C D E=RJ32_22 L32_6 L32_12 L32_15 J32_22 s0 i7 n9 A B C D E:=
 (congrArg (fun k=>WJ32_22 k s0 i7 n9 A B C D E) (funext fun e=>funext fun st=>join_eq Try.prog hint (fn:=Try.f32) (nt:=121) (T:=(Ta32 VL32_6 VL32_12 VL32_15 VJ32_22)) [PaL32_6,PaL32_12,PaL32_15,PaJ32_22] rfl PaJ32_22 e st rfl)).trans (J32_22g VL32_6 VL32_12 VL32_15 VJ32_22 s0 i7 n9 A B C D E)
noncomputable def R33(L33_5:YL33_5)(A:Bool)(B:List T) :Option Res:=
(bif (decide ((B.length:Int)=0)) then
 some ((.t (.list 1 false [])),⟨[],[]⟩)
else
 L33_5 (A) (B) ((B.length:Int)) (0) ((([.list 3 false []]:List T).map rowOf)))
theorem eq33g(KL33_5:Env→St→Option Res)(A:Bool)(B:List T) :gE 33 0 38 Try.f33 (Ta33 KL33_5) [.t (.list 3 A B)] ⟨[],[]⟩=R33 (WL33_5 KL33_5) A B:=by kernel_rfl
theorem eq33(A:Bool)(B:List T) :vr 33 0 [.t (.list 3 A B)] ⟨[],[]⟩=R33 L33_5 A B:=
 Eq.trans (call_eq Try.prog hint (fn:=Try.f33) (nt:=38) (T:=(Ta33 VL33_5)) [PaL33_5] rfl _ _ rfl rfl rfl rfl rfl) (eq33g VL33_5 A B)
noncomputable def RL33_5(L33_5:YL33_5)(A:Bool)(B:List T)(C D:Int)(E:List RowV) :Option Res:=
(bif (decide (D<C)) then
 needC (decide (0≤D)) fun _=>getT B (D).toNat fun a=>asA a fun b=>consT b fun a c=>asI .i64 a fun b=>consT c fun a d=>asS a fun c=>consT d fun a f=>asI .i64 a fun d=>endT f <|
(bif (decide (b=4)) then
 needC (decide ((E.length+1)*(24+1)≤70368744177664) &&decide (24≤1048576)) fun _=>L33_5 (A) (B) (C) ((IntKind.i64.wrap (D+1))) ((E++([.list 3 false []]:List T).map rowOf))
else
 needC (decide (0≤(IntKind.i64.wrap ((E.length:Int) - 1))) &&decide ((IntKind.i64.wrap ((E.length:Int) - 1))<(E.length:Int))) fun _=>rowC E (((IntKind.i64.wrap ((E.length:Int) - 1))).toNat) fun a f=>needC (decide ((f.length+1)*(32+1)≤70368744177664) &&decide (32≤1048576)) fun _=>needC (decide (0≤(IntKind.i64.wrap ((E.length:Int) - 1))) &&decide ((IntKind.i64.wrap ((E.length:Int) - 1))<(((E.set (((IntKind.i64.wrap ((E.length:Int) - 1))).toNat) .gone)).length:Int))) fun _=>needC (decide (((IntKind.i64.wrap ((E.length:Int) - 1))).toNat<((E.set (((IntKind.i64.wrap ((E.length:Int) - 1))).toNat) .gone)).length)) fun _=>
 L33_5 (A) (B) (C) ((IntKind.i64.wrap (D+1))) ((((E.set (((IntKind.i64.wrap ((E.length:Int) - 1))).toNat) .gone)).set (((IntKind.i64.wrap ((E.length:Int) - 1))).toNat) (.own ((a || true)) ((f++([.agg [.int .i64 b, .str c, .int .i64 d]]:List T)))))))
else
 treesC 3 E fun ts_14=>some ((.t (.list 1 true ts_14)),⟨[],[]⟩))
theorem L33_5g(KL33_5:Env→St→Option Res)(A:Bool)(B:List T)(C D:Int)(E:List RowV) :WL33_5 (fun e st=>gP 33 0 38 Try.f33 (Ta33 KL33_5) (.lp::PaL33_5) e st) A B C D E=RL33_5 (WL33_5 KL33_5) A B C D E:=by kernel_rfl
theorem L33_5_eq(A:Bool)(B:List T)(C D:Int)(E:List RowV) :L33_5 A B C D E=RL33_5 L33_5 A B C D E:=
 (congrArg (fun k=>WL33_5 k A B C D E) (funext fun e=>funext fun st=>round_eq Try.prog hint (b:=(nav (List.reverse (.lp::PaL33_5)) (bodyOf Try.f33))) (fn:=Try.f33) (nt:=38) (T:=(Ta33 VL33_5)) [PaL33_5] rfl PaL33_5 e st rfl rfl rfl)).trans (L33_5g VL33_5 A B C D E)
noncomputable def R48(A:Int) :Option Res:=
(bif (decide (A<0)) then
 some ((.tup [.t (.str ⟨#[]⟩), .t (.str ⟨#[]⟩)]),⟨[],[]⟩)
else
(bif (decide ((13:Int)≤A)) then
 some ((.tup [.t (.str ⟨#[]⟩), .t (.str ⟨#[]⟩)]),⟨[],[]⟩)
else
 needC (decide (0≤A) &&decide (A<(13:Int))) fun _=>getT ([.str ⟨#[104,97,108,116]⟩, .str ⟨#[115,101,116]⟩, .str ⟨#[109,111,118,101]⟩, .str ⟨#[97,100,100]⟩, .str ⟨#[115,117,98]⟩, .str ⟨#[109,117,108]⟩, .str ⟨#[108,111,97,100]⟩, .str ⟨#[115,116,111,114,101]⟩, .str ⟨#[108,101,110]⟩, .str ⟨#[112,117,115,104]⟩, .str ⟨#[106,117,109,112]⟩, .str ⟨#[108,101,115,115]⟩, .str ⟨#[115,97,109,101]⟩]) ((A).toNat) fun a=>asS a fun b=>needC (decide (0≤A) &&decide (A<(13:Int))) fun _=>getT ([.str ⟨#[]⟩, .str ⟨#[119,110]⟩, .str ⟨#[119,114]⟩, .str ⟨#[119,114,114]⟩, .str ⟨#[119,114,114]⟩, .str ⟨#[119,114,114]⟩, .str ⟨#[119,97,114]⟩, .str ⟨#[97,114,114]⟩, .str ⟨#[119,97]⟩, .str ⟨#[97,114]⟩, .str ⟨#[112]⟩, .str ⟨#[114,114,112]⟩, .str ⟨#[114,114,112]⟩]) ((A).toNat) fun a=>
 asS a fun c=>some ((.tup [.t (.str b), .t (.str c)]),⟨[],[]⟩)))
theorem eq48g(A:Int) :gE 48 0 24 Try.f48 [] [.t (.int .i64 A)] ⟨[],[]⟩=R48 A:=by kernel_rfl
theorem eq48(A:Int) :vr 48 0 [.t (.int .i64 A)] ⟨[],[]⟩=R48 A:=
 Eq.trans (call_eq Try.prog hint (fn:=Try.f48) (nt:=24) (T:=[]) [] rfl _ _ rfl rfl rfl rfl rfl) (eq48g A)
noncomputable def R66(L66_2:YL66_2)(A:ByteArray) :Option Res:=L66_2 (A) (0)
theorem eq66g(KL66_2:Env→St→Option Res)(A:ByteArray) :gE 66 0 19 Try.f66 (Ta66 KL66_2) [.t (.str A)] ⟨[],[]⟩=R66 (WL66_2 KL66_2) A:=by kernel_rfl
theorem eq66(A:ByteArray) :vr 66 0 [.t (.str A)] ⟨[],[]⟩=R66 L66_2 A:=
 Eq.trans (call_eq Try.prog hint (fn:=Try.f66) (nt:=19) (T:=(Ta66 VL66_2)) [PaL66_2] rfl _ _ rfl rfl rfl rfl rfl) (eq66g VL66_2 A)
noncomputable def RL66_2(L66_2:YL66_2)(s0:ByteArray)(A:Int) :Option Res:=
(bif (decide (A<13)) then
 callK (vr 48 0 [.t (.int .i64 A)] ⟨[],[]⟩) fun a b=>asTup a fun c=>consV c fun a d=>asT a fun c=>asS c fun a=>consV d fun c f=>asT c fun d=>asS d fun c=>endV f <| endB b <|
(bif (decide ((a:ByteArray)=s0)) then
 some ((.t (.int .i64 A)),⟨[],[]⟩)
else
 L66_2 (s0) ((IntKind.i64.wrap (A+1))))
else
 some ((.t (.int .i64 (-1))),⟨[],[]⟩))
theorem L66_2g(KL66_2:Env→St→Option Res)(s0:ByteArray)(A:Int) :WL66_2 (fun e st=>gP 66 0 19 Try.f66 (Ta66 KL66_2) (.lp::PaL66_2) e st) s0 A=RL66_2 (WL66_2 KL66_2) s0 A:=by kernel_rfl
theorem L66_2_eq(s0:ByteArray)(A:Int) :L66_2 s0 A=RL66_2 L66_2 s0 A:=
 (congrArg (fun k=>WL66_2 k s0 A) (funext fun e=>funext fun st=>round_eq Try.prog hint (b:=(nav (List.reverse (.lp::PaL66_2)) (bodyOf Try.f66))) (fn:=Try.f66) (nt:=19) (T:=(Ta66 VL66_2)) [PaL66_2] rfl PaL66_2 e st rfl rfl rfl)).trans (L66_2g VL66_2 s0 A)
noncomputable def R67(A:Int)(B:ByteArray)(C:Int)(D:ByteArray) :Option Res:=
(bif (!decide (A=1)) then
 some ((.tup [.t (.int .i64 0), .t (.bool false)]),⟨[],[]⟩)
else
 subS B none (some 1) fun a=>
(bif (!decide ((a:ByteArray)=D)) then
 some ((.tup [.t (.int .i64 0), .t (.bool false)]),⟨[],[]⟩)
else
 subS B (some 1) none fun a=>callK (vr 79 0 [.t (.str a)] ⟨[],[]⟩) fun b c=>asTup b fun a=>consV a fun b d=>asT b fun a=>asI .i64 a fun b=>consV d fun a f=>asT a fun d=>asB d fun a=>endV f <| endB c <| some ((.tup [.t (.int .i64 b), .t (.bool a)]),⟨[],[]⟩)))
theorem eq67g(A:Int)(B:ByteArray)(C:Int)(D:ByteArray) :gE 67 0 27 Try.f67 [] [.t (.agg [.int .i64 A, .str B, .int .i64 C]), .t (.str D)] ⟨[],[]⟩=R67 A B C D:=by kernel_rfl
theorem eq67(A:Int)(B:ByteArray)(C:Int)(D:ByteArray) :vr 67 0 [.t (.agg [.int .i64 A, .str B, .int .i64 C]), .t (.str D)] ⟨[],[]⟩=R67 A B C D:=
 Eq.trans (call_eq Try.prog hint (fn:=Try.f67) (nt:=27) (T:=[]) [] rfl _ _ rfl rfl rfl rfl rfl) (eq67g A B C D)
noncomputable def R34(L34_8:YL34_8)(J34_27:YJ34_27)(A:Bool)(B:List T) :Option Res:=
(bif (decide ((B.length:Int)=0)) then
 some ((.tup [.t (.agg [.int .i64 0, .int .i64 0, .int .i64 0, .int .i64 0, .int .i64 0]), .t (.bool false)]),⟨[],[]⟩)
else
 needC (decide (0≤0)) fun _=>getT B ((0:Int)).toNat fun a=>asA a fun b=>consT b fun a c=>asI .i64 a fun b=>consT c fun a d=>asS a fun c=>consT d fun a c=>asI .i64 a fun d=>endT c <|
(bif (!decide (b=1)) then
 some ((.tup [.t (.agg [.int .i64 0, .int .i64 0, .int .i64 0, .int .i64 0, .int .i64 0]), .t (.bool false)]),⟨[],[]⟩)
else
 needC (decide (0≤0)) fun _=>getT B ((0:Int)).toNat fun a=>asA a fun b=>consT b fun a c=>asI .i64 a fun b=>consT c fun a b=>asS a fun c=>consT b fun a d=>asI .i64 a fun b=>endT d <| callK (vr 66 0 [.t (.str c)] ⟨[],[]⟩) fun a b=>asT a fun c=>asI .i64 c fun a=>endB b <|
(bif (decide (a<0)) then
 some ((.tup [.t (.agg [.int .i64 0, .int .i64 0, .int .i64 0, .int .i64 0, .int .i64 0]), .t (.bool false)]),⟨[],[]⟩)
else
 needC (decide (0≤0)) fun _=>getT B ((0:Int)).toNat fun a=>asA a fun b=>consT b fun a c=>asI .i64 a fun b=>consT c fun a b=>asS a fun c=>consT b fun a d=>asI .i64 a fun b=>endT d <| callK (vr 66 0 [.t (.str c)] ⟨[],[]⟩) fun a b=>asT a fun c=>asI .i64 c fun a=>endB b <| callK (vr 48 0 [.t (.int .i64 a)] ⟨[],[]⟩) fun b c=>asTup b fun d=>consV d fun b f=>asT b fun d=>asS d fun b=>consV f fun b d=>asT b fun f=>asS f fun b=>endV d <| endB c <| cutL B (some 1) none fun c=>L34_8 (A) (c) (b) ((b.size:Int)) (0) (0) (0) (0) (0) (0) (a) (0) (0) (0) (0) (true) ([.int .i64 0, .int .i64 0, .int .i64 0]))))
theorem eq34g(KL34_8 KJ34_27:Env→St→Option Res)(A:Bool)(B:List T) :gE 34 0 161 Try.f34 (Ta34 KL34_8 KJ34_27) [.t (.list 3 A B)] ⟨[],[]⟩=R34 (WL34_8 KL34_8) (WJ34_27 KJ34_27) A B:=by kernel_rfl
theorem eq34(A:Bool)(B:List T) :vr 34 0 [.t (.list 3 A B)] ⟨[],[]⟩=R34 L34_8 J34_27 A B:=
 Eq.trans (call_eq Try.prog hint (fn:=Try.f34) (nt:=161) (T:=(Ta34 VL34_8 VJ34_27)) [PaL34_8,PaJ34_27] rfl _ _ rfl rfl rfl rfl rfl) (eq34g VL34_8 VJ34_27 A B)
noncomputable def RL34_8(L34_8:YL34_8)(J34_27:YJ34_27)(l0z:Bool)(l0:List T)(kinds6:ByteArray)(A B C D E F G H I J K L:Int)(M:Bool)(N:List T) :Option Res:=
(bif (decide (B<A)) then
(bif (decide ((l0.length:Int)=0)) then
 some ((.tup [.t (.agg [.int .i64 H, .int .i64 I, .int .i64 J, .int .i64 K, .int .i64 L]), .t (.bool false)]),⟨[],[]⟩)
else
 needC (decide (0≤0)) fun _=>getT l0 ((0:Int)).toNat fun a=>asA a fun b=>consT b fun a c=>asI .i64 a fun b=>consT c fun a d=>asS a fun c=>consT d fun a c=>asI .i64 a fun d=>endT c <| needC (decide (0≤B) &&decide (B<(kinds6.size:Int))) fun _=>
(bif (decide ((((kinds6:ByteArray)[(B).toNat]!).toNat:Int)=119)) then
 needC (decide (0≤0)) fun _=>getT l0 ((0:Int)).toNat fun a=>asA a fun c=>consT c fun a d=>asI .i64 a fun c=>consT d fun a f=>asS a fun d=>consT f fun a g=>asI .i64 a fun f=>endT g <| callK (vr 67 0 [.t (.agg [.int .i64 c, .str d, .int .i64 f]), .t (.str ⟨#[114]⟩)] ⟨[],[]⟩) fun a g=>asTup a fun c=>consV c fun a d=>asT a fun c=>asI .i64 c fun a=>consV d fun c f=>asT c fun d=>asB d fun c=>endV f <| endB g <| needC (decide (0≤B) &&decide (B<(N.length:Int))) fun _=>needC (M &&true) fun _=>setT N ((B).toNat) (.int .i64 a) fun d=>J34_27 (l0z) (l0) (kinds6) (c) (A) (B) (C) (D) (E) (F) (G) (H) (I) (J) (K) (L) (M) (d)
else
(bif (decide ((((kinds6:ByteArray)[(B).toNat]!).toNat:Int)=114)) then
 needC (decide (0≤0)) fun _=>getT l0 ((0:Int)).toNat fun a=>asA a fun c=>consT c fun a d=>asI .i64 a fun c=>consT d fun a f=>asS a fun d=>consT f fun a g=>asI .i64 a fun f=>endT g <| callK (vr 67 0 [.t (.agg [.int .i64 c, .str d, .int .i64 f]), .t (.str ⟨#[114]⟩)] ⟨[],[]⟩) fun a g=>asTup a fun c=>consV c fun a d=>asT a fun c=>asI .i64 c fun a=>consV d fun c f=>asT c fun d=>asB d fun c=>endV f <| endB g <| needC (decide (0≤B) &&decide (B<(N.length:Int))) fun _=>needC (M &&true) fun _=>setT N ((B).toNat) (.int .i64 a) fun d=>J34_27 (l0z) (l0) (kinds6) (c) (A) (B) (C) (D) (E) (F) (G) (H) (I) (J) (K) (L) (M) (d)
else
(bif (decide ((((kinds6:ByteArray)[(B).toNat]!).toNat:Int)=97)) then
 needC (decide (0≤0)) fun _=>getT l0 ((0:Int)).toNat fun a=>asA a fun c=>consT c fun a d=>asI .i64 a fun c=>consT d fun a f=>asS a fun d=>consT f fun a g=>asI .i64 a fun f=>endT g <| callK (vr 67 0 [.t (.agg [.int .i64 c, .str d, .int .i64 f]), .t (.str ⟨#[97]⟩)] ⟨[],[]⟩) fun a g=>asTup a fun c=>consV c fun a d=>asT a fun c=>asI .i64 c fun a=>consV d fun c f=>asT c fun d=>asB d fun c=>endV f <| endB g <| needC (decide (0≤B) &&decide (B<(N.length:Int))) fun _=>needC (M &&true) fun _=>setT N ((B).toNat) (.int .i64 a) fun d=>J34_27 (l0z) (l0) (kinds6) (c) (A) (B) (C) (D) (E) (F) (G) (H) (I) (J) (K) (L) (M) (d)
else
(bif (decide ((((kinds6:ByteArray)[(B).toNat]!).toNat:Int)=112)) then
 needC (decide (0≤0)) fun _=>getT l0 ((0:Int)).toNat fun a=>asA a fun c=>consT c fun a d=>asI .i64 a fun c=>consT d fun a c=>asS a fun d=>consT c fun a d=>asI .i64 a fun c=>endT d <| needC (decide (0≤B) &&decide (B<(N.length:Int))) fun _=>needC (M &&true) fun _=>setT N ((B).toNat) (.int .i64 c) fun a=>J34_27 (l0z) (l0) (kinds6) ((decide (b=2))) (A) (B) (C) (D) (E) (F) (G) (H) (I) (J) (K) (L) (M) (a)
else
(bif (decide ((((kinds6:ByteArray)[(B).toNat]!).toNat:Int)=110)) then
 needC (decide (0≤0)) fun _=>getT l0 ((0:Int)).toNat fun a=>asA a fun c=>consT c fun a d=>asI .i64 a fun c=>consT d fun a c=>asS a fun d=>consT c fun a d=>asI .i64 a fun c=>endT d <| needC (decide (0≤0)) fun _=>getT l0 ((0:Int)).toNat fun a=>asA a fun d=>consT d fun a f=>asI .i64 a fun d=>consT f fun a g=>asS a fun f=>consT g fun a f=>asI .i64 a fun g=>endT f <|
(bif (decide (d=3)) then
 needC (decide (0≤0)) fun _=>getT l0 ((0:Int)).toNat fun a=>asA a fun d=>consT d fun a f=>asI .i64 a fun d=>consT f fun a d=>asS a fun f=>consT d fun a g=>asI .i64 a fun d=>endT g <|
(bif (decide ((f:ByteArray)=⟨#[45]⟩)) then
(bif (decide ((l0.length:Int)=2)) then
 cutL l0 (some 1) none fun a=>needC (decide (0≤0)) fun _=>getT a ((0:Int)).toNat fun d=>asA d fun f=>consT f fun d g=>asI .i64 d fun f=>consT g fun d f=>asS d fun g=>consT f fun d g=>asI .i64 d fun f=>endT g <| needC (decide (0≤0)) fun _=>getT a ((0:Int)).toNat fun d=>asA d fun g=>consT g fun d h=>asI .i64 d fun g=>consT h fun d i=>asS d fun h=>consT i fun d h=>asI .i64 d fun i=>endT h <|
(bif (decide (g=2)) then
 needC (decide (0≤0)) fun _=>getT a ((0:Int)).toNat fun d=>asA d fun g=>consT g fun d h=>asI .i64 d fun g=>consT h fun d g=>asS d fun h=>consT g fun d h=>asI .i64 d fun g=>endT h <| J34_27 (l0z) (a) (kinds6) ((!decide (g=0))) (A) (B) (C) (D) (E) (F) (G) (H) (I) (J) (K) ((IntKind.i64.wrap (0 - f))) (M) (N)
else
 J34_27 (l0z) (a) (kinds6) (false) (A) (B) (C) (D) (E) (F) (G) (H) (I) (J) (K) ((IntKind.i64.wrap (0 - f))) (M) (N))
else
 J34_27 (l0z) (l0) (kinds6) ((decide (b=2))) (A) (B) (C) (D) (E) (F) (G) (H) (I) (J) (K) (c) (M) (N))
else
 J34_27 (l0z) (l0) (kinds6) ((decide (b=2))) (A) (B) (C) (D) (E) (F) (G) (H) (I) (J) (K) (c) (M) (N))
else
 J34_27 (l0z) (l0) (kinds6) ((decide (b=2))) (A) (B) (C) (D) (E) (F) (G) (H) (I) (J) (K) (c) (M) (N))
else
 J34_27 (l0z) (l0) (kinds6) ((decide (b=2))) (A) (B) (C) (D) (E) (F) (G) (H) (I) (J) (K) (L) (M) (N)))))))
else
 needC (decide (0≤0) &&decide ((0:Int)<(N.length:Int))) fun _=>getT N (((0:Int)).toNat) fun a=>asI .i64 a fun b=>needC (decide (0≤1) &&decide ((1:Int)<(N.length:Int))) fun _=>getT N (((1:Int)).toNat) fun a=>asI .i64 a fun c=>needC (decide (0≤2) &&decide ((2:Int)<(N.length:Int))) fun _=>getT N (((2:Int)).toNat) fun a=>asI .i64 a fun d=>some ((.tup [.t (.agg [.int .i64 H, .int .i64 b, .int .i64 c, .int .i64 d, .int .i64 L]), .t (.bool (decide ((l0.length:Int)=0)))]),⟨[],[]⟩))
theorem L34_8g(KL34_8 KJ34_27:Env→St→Option Res)(l0z:Bool)(l0:List T)(kinds6:ByteArray)(A B C D E F G H I J K L:Int)(M:Bool)(N:List T) :WL34_8 (fun e st=>gP 34 0 161 Try.f34 (Ta34 KL34_8 KJ34_27) (.lp::PaL34_8) e st) l0z l0 kinds6 A B C D E F G H I J K L M N=RL34_8 (WL34_8 KL34_8) (WJ34_27 KJ34_27) l0z l0 kinds6 A B C D E F G H I J K L M N:=by kernel_rfl
theorem L34_8_eq(l0z:Bool)(l0:List T)(kinds6:ByteArray)(A B C D E F G H I J K L:Int)(M:Bool)(N:List T) :L34_8 l0z l0 kinds6 A B C D E F G H I J K L M N=RL34_8 L34_8 J34_27 l0z l0 kinds6 A B C D E F G H I J K L M N:=
 (congrArg (fun k=>WL34_8 k l0z l0 kinds6 A B C D E F G H I J K L M N) (funext fun e=>funext fun st=>round_eq Try.prog hint (b:=(nav (List.reverse (.lp::PaL34_8)) (bodyOf Try.f34))) (fn:=Try.f34) (nt:=161) (T:=(Ta34 VL34_8 VJ34_27)) [PaL34_8,PaJ34_27] rfl PaL34_8 e st rfl rfl rfl)).trans (L34_8g VL34_8 VJ34_27 l0z l0 kinds6 A B C D E F G H I J K L M N)
noncomputable def RJ34_27(L34_8:YL34_8)(J34_27:YJ34_27)(l0z:Bool)(l0:List T)(kinds6:ByteArray)(ok9:Bool)(A B C D E F G H I J K L:Int)(M:Bool)(N:List T) :Option Res:=
(bif (!ok9) then
 some ((.tup [.t (.agg [.int .i64 H, .int .i64 I, .int .i64 J, .int .i64 K, .int .i64 L]), .t (.bool false)]),⟨[],[]⟩)
else
 cutL l0 (some 1) none fun a=>L34_8 (l0z) (a) (kinds6) (A) ((IntKind.i64.wrap (B+1))) (C) (D) (E) (F) (G) (H) (I) (J) (K) (L) (M) (N))
theorem J34_27g(KL34_8 KJ34_27:Env→St→Option Res)(l0z:Bool)(l0:List T)(kinds6:ByteArray)(ok9:Bool)(A B C D E F G H I J K L:Int)(M:Bool)(N:List T) :WJ34_27 (fun e st=>gP 34 0 161 Try.f34 (Ta34 KL34_8 KJ34_27) PaJ34_27 e st) l0z l0 kinds6 ok9 A B C D E F G H I J K L M N=RJ34_27 (WL34_8 KL34_8) (WJ34_27 KJ34_27) l0z l0 kinds6 ok9 A B C D E F G H I J K L M N:=by kernel_rfl
theorem J34_27_eq(l0z:Bool)(l0:List T)(kinds6:ByteArray)(ok9:Bool)(A B C D E F G H I J K L:Int)(M:Bool)(N:List T) :J34_27 l0z l0 kinds6 ok9 A B C D E F G H I J K L M N=RJ34_27 L34_8 J34_27 l0z l0 kinds6 ok9 A B C D E F G H I J K L M N:=
 (congrArg (fun k=>WJ34_27 k l0z l0 kinds6 ok9 A B C D E F G H I J K L M N) (funext fun e=>funext fun st=>join_eq Try.prog hint (fn:=Try.f34) (nt:=161) (T:=(Ta34 VL34_8 VJ34_27)) [PaL34_8,PaJ34_27] rfl PaJ34_27 e st rfl)).trans (J34_27g VL34_8 VJ34_27 l0z l0 kinds6 ok9 A B C D E F G H I J K L M N)
noncomputable def R49(A B C D E:Int) :Option Res:=some ((.t (.list 1 true [.int .i64 B, .int .i64 C, .int .i64 D])),⟨[],[]⟩)
theorem eq49g(A B C D E:Int) :gE 49 0 10 Try.f49 [] [.t (.agg [.int .i64 A, .int .i64 B, .int .i64 C, .int .i64 D, .int .i64 E])] ⟨[],[]⟩=R49 A B C D E:=by kernel_rfl
theorem eq49(A B C D E:Int) :vr 49 0 [.t (.agg [.int .i64 A, .int .i64 B, .int .i64 C, .int .i64 D, .int .i64 E])] ⟨[],[]⟩=R49 A B C D E:=
 Eq.trans (call_eq Try.prog hint (fn:=Try.f49) (nt:=10) (T:=[]) [] rfl _ _ rfl rfl rfl rfl rfl) (eq49g A B C D E)
noncomputable def R50(L50_7:YL50_7)(J50_12:YJ50_12)(J50_23:YJ50_23)(A B C D E F G H:Int)(I:Bool)(J:List T) :Option Res:=callK (vr 48 0 [.t (.int .i64 A)] ⟨[],[]⟩) fun a b=>asTup a fun c=>consV c fun a d=>asT a fun c=>asS c fun a=>consV d fun c f=>asT c fun d=>asS d fun c=>endV f <| endB b <|
(bif (decide ((a:ByteArray)=⟨#[]⟩)) then
 some ((.t (.bool false)),⟨[],[]⟩)
else
 callK (vr 49 0 [.t (.agg [.int .i64 A, .int .i64 B, .int .i64 C, .int .i64 D, .int .i64 E])] ⟨[],[]⟩) fun a b=>asT a fun d=>asL 1 d fun a f=>endB b <| L50_7 (c) (a) (f) (false) (0) (A) (B) (C) (D) (E) (F) (G) (H) (I) (J))
theorem eq50g(KL50_7 KJ50_12 KJ50_23:Env→St→Option Res)(A B C D E F G H:Int)(I:Bool)(J:List T) :gE 50 0 76 Try.f50 (Ta50 KL50_7 KJ50_12 KJ50_23) [.t (.agg [.int .i64 A, .int .i64 B, .int .i64 C, .int .i64 D, .int .i64 E]), .t (.agg [.int .i64 F, .int .i64 G, .int .i64 H, .list 5 I J])] ⟨[],[]⟩=R50 (WL50_7 KL50_7) (WJ50_12 KJ50_12) (WJ50_23 KJ50_23) A B C D E F G H I J:=by kernel_rfl
theorem eq50(A B C D E F G H:Int)(I:Bool)(J:List T) :vr 50 0 [.t (.agg [.int .i64 A, .int .i64 B, .int .i64 C, .int .i64 D, .int .i64 E]), .t (.agg [.int .i64 F, .int .i64 G, .int .i64 H, .list 5 I J])] ⟨[],[]⟩=R50 L50_7 J50_12 J50_23 A B C D E F G H I J:=
 Eq.trans (call_eq Try.prog hint (fn:=Try.f50) (nt:=76) (T:=(Ta50 VL50_7 VJ50_12 VJ50_23)) [PaL50_7,PaJ50_12,PaJ50_23] rfl _ _ rfl rfl rfl rfl rfl) (eq50g VL50_7 VJ50_12 VJ50_23 A B C D E F G H I J)
noncomputable def RL50_7(L50_7:YL50_7)(J50_12:YJ50_12)(J50_23:YJ50_23)(kinds6:ByteArray)(f7z:Bool)(f7:List T)(n8:Bool)(A B C D E F G H I:Int)(J:Bool)(K:List T) :Option Res:=
(bif (decide (A<3)) then
(bif (decide (A<(kinds6.size:Int))) then
 needC (decide (0≤A) &&decide (A<(kinds6.size:Int))) fun _=>J50_12 (kinds6) (f7z) (f7) (n8) (A) ((((kinds6:ByteArray)[(A).toNat]!).toNat:Int)) (A) (B) (C) (D) (E) (F) (G) (H) (I) (J) (K)
else
 J50_12 (kinds6) (f7z) (f7) (n8) (A) (32) (A) (B) (C) (D) (E) (F) (G) (H) (I) (J) (K))
else
(bif (!n8) then
 some ((.t (.bool (decide (F=0)))),⟨[],[]⟩)
else
(bif (decide ((-1000000000000000000)<F)) then
 some ((.t (.bool (decide (F<1000000000000000000)))),⟨[],[]⟩)
else
 some ((.t (.bool false)),⟨[],[]⟩))))
theorem L50_7g(KL50_7 KJ50_12 KJ50_23:Env→St→Option Res)(kinds6:ByteArray)(f7z:Bool)(f7:List T)(n8:Bool)(A B C D E F G H I:Int)(J:Bool)(K:List T) :WL50_7 (fun e st=>gP 50 0 76 Try.f50 (Ta50 KL50_7 KJ50_12 KJ50_23) (.lp::PaL50_7) e st) kinds6 f7z f7 n8 A B C D E F G H I J K=RL50_7 (WL50_7 KL50_7) (WJ50_12 KJ50_12) (WJ50_23 KJ50_23) kinds6 f7z f7 n8 A B C D E F G H I J K:=by kernel_rfl
theorem L50_7_eq(kinds6:ByteArray)(f7z:Bool)(f7:List T)(n8:Bool)(A B C D E F G H I:Int)(J:Bool)(K:List T) :L50_7 kinds6 f7z f7 n8 A B C D E F G H I J K=RL50_7 L50_7 J50_12 J50_23 kinds6 f7z f7 n8 A B C D E F G H I J K:=
 (congrArg (fun k=>WL50_7 k kinds6 f7z f7 n8 A B C D E F G H I J K) (funext fun e=>funext fun st=>round_eq Try.prog hint (b:=(nav (List.reverse (.lp::PaL50_7)) (bodyOf Try.f50))) (fn:=Try.f50) (nt:=76) (T:=(Ta50 VL50_7 VJ50_12 VJ50_23)) [PaL50_7,PaJ50_12,PaJ50_23] rfl PaL50_7 e st rfl rfl rfl)).trans (L50_7g VL50_7 VJ50_12 VJ50_23 kinds6 f7z f7 n8 A B C D E F G H I J K)
noncomputable def RJ50_12(L50_7:YL50_7)(J50_12:YJ50_12)(J50_23:YJ50_23)(kinds6:ByteArray)(f7z:Bool)(f7:List T)(n8:Bool)(i9 kind10 A B C D E F G H I:Int)(J:Bool)(K:List T) :Option Res:=
(bif (decide (kind10=119)) then
 J50_23 (kinds6) (f7z) (f7) (n8) (i9) (G) (A) (B) (C) (D) (E) (F) (G) (H) (I) (J) (K)
else
(bif (decide (kind10=114)) then
 J50_23 (kinds6) (f7z) (f7) (n8) (i9) (G) (A) (B) (C) (D) (E) (F) (G) (H) (I) (J) (K)
else
(bif (decide (kind10=97)) then
 J50_23 (kinds6) (f7z) (f7) (n8) (i9) (H) (A) (B) (C) (D) (E) (F) (G) (H) (I) (J) (K)
else
(bif (decide (kind10=112)) then
 J50_23 (kinds6) (f7z) (f7) (n8) (i9) ((K.length:Int)) (A) (B) (C) (D) (E) (F) (G) (H) (I) (J) (K)
else
(bif (decide (kind10=110)) then
 J50_23 (kinds6) (f7z) (f7) (true) (i9) (1) (A) (B) (C) (D) (E) (F) (G) (H) (I) (J) (K)
else
 J50_23 (kinds6) (f7z) (f7) (n8) (i9) (1) (A) (B) (C) (D) (E) (F) (G) (H) (I) (J) (K))))))
theorem J50_12g(KL50_7 KJ50_12 KJ50_23:Env→St→Option Res)(kinds6:ByteArray)(f7z:Bool)(f7:List T)(n8:Bool)(i9 kind10 A B C D E F G H I:Int)(J:Bool)(K:List T) :WJ50_12 (fun e st=>gP 50 0 76 Try.f50 (Ta50 KL50_7 KJ50_12 KJ50_23) PaJ50_12 e st) kinds6 f7z f7 n8 i9 kind10 A B C D E F G H I J K=RJ50_12 (WL50_7 KL50_7) (WJ50_12 KJ50_12) (WJ50_23 KJ50_23) kinds6 f7z f7 n8 i9 kind10 A B C D E F G H I J K:=by kernel_rfl
theorem J50_12_eq(kinds6:ByteArray)(f7z:Bool)(f7:List T)(n8:Bool)(i9 kind10 A B C D E F G H I:Int)(J:Bool)(K:List T) :J50_12 kinds6 f7z f7 n8 i9 kind10 A B C D E F G H I J K=RJ50_12 L50_7 J50_12 J50_23 kinds6 f7z f7 n8 i9 kind10 A B C D E F G H I J K:=
 (congrArg (fun k=>WJ50_12 k kinds6 f7z f7 n8 i9 kind10 A B C D E F G H I J K) (funext fun e=>funext fun st=>join_eq Try.prog hint (fn:=Try.f50) (nt:=76) (T:=(Ta50 VL50_7 VJ50_12 VJ50_23)) [PaL50_7,PaJ50_12,PaJ50_23] rfl PaJ50_12 e st rfl)).trans (J50_12g VL50_7 VJ50_12 VJ50_23 kinds6 f7z f7 n8 i9 kind10 A B C D E F G H I J K)
noncomputable def RJ50_23(L50_7:YL50_7)(J50_12:YJ50_12)(J50_23:YJ50_23)(kinds6:ByteArray)(f7z:Bool)(f7:List T)(n8:Bool)(i9 limit11 A B C D E F G H I:Int)(J:Bool)(K:List T) :Option Res:=needC (decide (0≤i9)) fun _=>getT f7 (i9).toNat fun a=>asI .i64 a fun b=>
(bif (decide (b<0)) then
 some ((.t (.bool false)),⟨[],[]⟩)
else
 needC (decide (0≤i9)) fun _=>getT f7 (i9).toNat fun a=>asI .i64 a fun b=>
(bif (decide (limit11≤b)) then
 some ((.t (.bool false)),⟨[],[]⟩)
else
 L50_7 (kinds6) (f7z) (f7) (n8) ((IntKind.i64.wrap (A+1))) (B) (C) (D) (E) (F) (G) (H) (I) (J) (K)))
theorem J50_23g(KL50_7 KJ50_12 KJ50_23:Env→St→Option Res)(kinds6:ByteArray)(f7z:Bool)(f7:List T)(n8:Bool)(i9 limit11 A B C D E F G H I:Int)(J:Bool)(K:List T) :WJ50_23 (fun e st=>gP 50 0 76 Try.f50 (Ta50 KL50_7 KJ50_12 KJ50_23) PaJ50_23 e st) kinds6 f7z f7 n8 i9 limit11 A B C D E F G H I J K=RJ50_23 (WL50_7 KL50_7) (WJ50_12 KJ50_12) (WJ50_23 KJ50_23) kinds6 f7z f7 n8 i9 limit11 A B C D E F G H I J K:=by kernel_rfl
theorem J50_23_eq(kinds6:ByteArray)(f7z:Bool)(f7:List T)(n8:Bool)(i9 limit11 A B C D E F G H I:Int)(J:Bool)(K:List T) :J50_23 kinds6 f7z f7 n8 i9 limit11 A B C D E F G H I J K=RJ50_23 L50_7 J50_12 J50_23 kinds6 f7z f7 n8 i9 limit11 A B C D E F G H I J K:=
 (congrArg (fun k=>WJ50_23 k kinds6 f7z f7 n8 i9 limit11 A B C D E F G H I J K) (funext fun e=>funext fun st=>join_eq Try.prog hint (fn:=Try.f50) (nt:=76) (T:=(Ta50 VL50_7 VJ50_12 VJ50_23)) [PaL50_7,PaJ50_12,PaJ50_23] rfl PaJ50_23 e st rfl)).trans (J50_23g VL50_7 VJ50_12 VJ50_23 kinds6 f7z f7 n8 i9 limit11 A B C D E F G H I J K)
noncomputable def R27(L27_3:YL27_3)(A B C:Int)(D:Bool)(E:List T) :Option Res:=
(bif (decide (0≤A)) then
(bif (decide (A≤128)) then
(bif (decide (0≤B)) then
(bif (decide (B≤128)) then
(bif (decide (0≤C)) then
(bif (decide (C≤B)) then
(bif (decide (1≤(E.length:Int))) then
 L27_3 ((decide ((E.length:Int)≤4096))) (D) (E) ((E.length:Int)) (0) (A) (B) (C) (D) (E)
else
 L27_3 (false) (D) (E) ((E.length:Int)) (0) (A) (B) (C) (D) (E))
else
 L27_3 (false) (D) (E) ((E.length:Int)) (0) (A) (B) (C) (D) (E))
else
 L27_3 (false) (D) (E) ((E.length:Int)) (0) (A) (B) (C) (D) (E))
else
 L27_3 (false) (D) (E) ((E.length:Int)) (0) (A) (B) (C) (D) (E))
else
 L27_3 (false) (D) (E) ((E.length:Int)) (0) (A) (B) (C) (D) (E))
else
 L27_3 (false) (D) (E) ((E.length:Int)) (0) (A) (B) (C) (D) (E))
else
 L27_3 (false) (D) (E) ((E.length:Int)) (0) (A) (B) (C) (D) (E))
theorem eq27g(KL27_3:Env→St→Option Res)(A B C:Int)(D:Bool)(E:List T) :gE 27 0 81 Try.f27 (Ta27 KL27_3) [.t (.agg [.int .i64 A, .int .i64 B, .int .i64 C, .list 5 D E])] ⟨[],[]⟩=R27 (WL27_3 KL27_3) A B C D E:=by kernel_rfl
theorem eq27(A B C:Int)(D:Bool)(E:List T) :vr 27 0 [.t (.agg [.int .i64 A, .int .i64 B, .int .i64 C, .list 5 D E])] ⟨[],[]⟩=R27 L27_3 A B C D E:=
 Eq.trans (call_eq Try.prog hint (fn:=Try.f27) (nt:=81) (T:=(Ta27 VL27_3)) [PaL27_3] rfl _ _ rfl rfl rfl rfl rfl) (eq27g VL27_3 A B C D E)
noncomputable def RL27_3(L27_3:YL27_3)(ok3 A:Bool)(B:List T)(C D E F G:Int)(H:Bool)(I:List T) :Option Res:=
(bif (decide (D<C)) then
 needC (decide (0≤D)) fun _=>getT B (D).toNat fun a=>asA a fun b=>consT b fun a c=>asI .i64 a fun b=>consT c fun a d=>asI .i64 a fun c=>consT d fun a f=>asI .i64 a fun d=>consT f fun a g=>asI .i64 a fun f=>consT g fun a h=>asI .i64 a fun g=>endT h <|
(bif ok3 then
 callK (vr 50 0 [.t (.agg [.int .i64 b, .int .i64 c, .int .i64 d, .int .i64 f, .int .i64 g]), .t (.agg [.int .i64 E, .int .i64 F, .int .i64 G, .list 5 H I])] ⟨[],[]⟩) fun a h=>asT a fun b=>asB b fun a=>endB h <| L27_3 (a) (A) (B) (C) ((IntKind.i64.wrap (D+1))) (E) (F) (G) (H) (I)
else
 L27_3 (false) (A) (B) (C) ((IntKind.i64.wrap (D+1))) (E) (F) (G) (H) (I))
else
(bif (!ok3) then
 some ((.t (.int .i64 1)),⟨[],[]⟩)
else
 needC (decide (0≤(IntKind.i64.wrap ((I.length:Int) - 1)))) fun _=>getT I ((IntKind.i64.wrap ((I.length:Int) - 1))).toNat fun a=>asA a fun b=>consT b fun a c=>asI .i64 a fun b=>consT c fun a d=>asI .i64 a fun c=>consT d fun a c=>asI .i64 a fun d=>consT c fun a d=>asI .i64 a fun c=>consT d fun a c=>asI .i64 a fun d=>endT c <|
(bif (!decide (b=0)) then
(bif (!decide (b=10)) then
 some ((.t (.int .i64 1)),⟨[],[]⟩)
else
 some ((.t (.int .i64 0)),⟨[],[]⟩))
else
 some ((.t (.int .i64 0)),⟨[],[]⟩))))
theorem L27_3g(KL27_3:Env→St→Option Res)(ok3 A:Bool)(B:List T)(C D E F G:Int)(H:Bool)(I:List T) :WL27_3 (fun e st=>gP 27 0 81 Try.f27 (Ta27 KL27_3) (.lp::PaL27_3) e st) ok3 A B C D E F G H I=RL27_3 (WL27_3 KL27_3) ok3 A B C D E F G H I:=by kernel_rfl
theorem L27_3_eq(ok3 A:Bool)(B:List T)(C D E F G:Int)(H:Bool)(I:List T) :L27_3 ok3 A B C D E F G H I=RL27_3 L27_3 ok3 A B C D E F G H I:=
 (congrArg (fun k=>WL27_3 k ok3 A B C D E F G H I) (funext fun e=>funext fun st=>round_eq Try.prog hint (b:=(nav (List.reverse (.lp::PaL27_3)) (bodyOf Try.f27))) (fn:=Try.f27) (nt:=81) (T:=(Ta27 VL27_3)) [PaL27_3] rfl PaL27_3 e st rfl rfl rfl)).trans (L27_3g VL27_3 ok3 A B C D E F G H I)
noncomputable def R11(L11_12:YL11_12)(A:ByteArray) :Option Res:=callK (vr 32 0 [.t (.str A)] ⟨[],[]⟩) fun a b=>asTup a fun c=>consV c fun a d=>asT a fun c=>asL 3 c fun a f=>consV d fun c g=>asT c fun d=>asI .i64 d fun c=>consV g fun d h=>asT d fun g=>asI .i64 g fun d=>endV h <| endB b <|
(bif (!decide (d=0)) then
 some ((.tup [.t (.agg [.int .i64 0, .int .i64 0, .int .i64 0, .list 5 false []]), .t (.int .i64 c), .t (.int .i64 d)]),⟨[],[]⟩)
else
 callK (vr 33 0 [.t (.list 3 a f)] ⟨[],[]⟩) fun b c=>asT b fun a=>asL 1 a fun b d=>endB c <|
(bif (decide ((d.length:Int)=0)) then
 Z0
else
 needC (decide (0≤0)) fun _=>getT d ((0:Int)).toNat fun a=>asL 3 a fun c f=>
(bif (!decide ((f.length:Int)=4)) then
 Z0
else
 needC (decide (0≤0)) fun _=>getT f ((0:Int)).toNat fun a=>asA a fun c=>consT c fun a g=>asI .i64 a fun c=>consT g fun a h=>asS a fun g=>consT h fun a g=>asI .i64 a fun h=>endT g <|
(bif (!decide (c=1)) then
 Z0
else
 needC (decide (0≤0)) fun _=>getT f ((0:Int)).toNat fun a=>asA a fun c=>consT c fun a g=>asI .i64 a fun c=>consT g fun a c=>asS a fun g=>consT c fun a h=>asI .i64 a fun c=>endT h <|
(bif (!decide ((g:ByteArray)=⟨#[99,111,100,101]⟩)) then
 Z0
else
 needC (decide (0≤1)) fun _=>getT f ((1:Int)).toNat fun a=>asA a fun c=>consT c fun a g=>asI .i64 a fun c=>consT g fun a h=>asS a fun g=>consT h fun a g=>asI .i64 a fun h=>endT g <|
(bif (!decide (c=2)) then
 Z0
else
 needC (decide (0≤2)) fun _=>getT f ((2:Int)).toNat fun a=>asA a fun c=>consT c fun a g=>asI .i64 a fun c=>consT g fun a h=>asS a fun g=>consT h fun a g=>asI .i64 a fun h=>endT g <|
(bif (!decide (c=2)) then
 Z0
else
 needC (decide (0≤3)) fun _=>getT f ((3:Int)).toNat fun a=>asA a fun c=>consT c fun a g=>asI .i64 a fun c=>consT g fun a h=>asS a fun g=>consT h fun a g=>asI .i64 a fun h=>endT g <|
(bif (!decide (c=2)) then
 Z0
else
 needC (decide (0≤1)) fun _=>getT f ((1:Int)).toNat fun a=>asA a fun c=>consT c fun a g=>asI .i64 a fun c=>consT g fun a c=>asS a fun g=>consT c fun a g=>asI .i64 a fun c=>endT g <| needC (decide (0≤2)) fun _=>getT f ((2:Int)).toNat fun a=>asA a fun g=>consT g fun a h=>asI .i64 a fun g=>consT h fun a g=>asS a fun h=>consT g fun a h=>asI .i64 a fun g=>endT h <| needC (decide (0≤3)) fun _=>getT f ((3:Int)).toNat fun a=>asA a fun f=>consT f fun a h=>asI .i64 a fun f=>consT h fun a f=>asS a fun h=>consT f fun a h=>asI .i64 a fun f=>endT h <|
 cutL d (some 1) none fun a=>L11_12 (b) (d) (b) (a) ((a.length:Int)) (0) (0) (0) (0) (false) ([]) (c) (g) (f) (false) ([])))))))))
theorem eq11g(KL11_12:Env→St→Option Res)(A:ByteArray) :gE 11 0 119 Try.f11 (Ta11 KL11_12) [.t (.str A)] ⟨[],[]⟩=R11 (WL11_12 KL11_12) A:=by kernel_rfl
theorem eq11(A:ByteArray) :vr 11 0 [.t (.str A)] ⟨[],[]⟩=R11 L11_12 A:=
 Eq.trans (call_eq Try.prog hint (fn:=Try.f11) (nt:=119) (T:=(Ta11 VL11_12)) [PaL11_12] rfl _ _ rfl rfl rfl rfl rfl) (eq11g VL11_12 A)
noncomputable def RL11_12(L11_12:YL11_12)(lines8z:Bool)(lines8:List T)(A:Bool)(B:List T)(C D E F G:Int)(H:Bool)(I:List T)(J K L:Int)(M:Bool)(N:List T) :Option Res:=
(bif (decide (D<C)) then
 needC (decide (0≤D)) fun _=>getT B (D).toNat fun a=>asL 3 a fun b c=>callK (vr 34 0 [.t (.list 3 b c)] ⟨[],[]⟩) fun a d=>asTup a fun b=>consV b fun a c=>asT a fun b=>asA b fun a=>consT a fun b f=>asI .i64 b fun a=>consT f fun b g=>asI .i64 b fun f=>consT g fun b h=>asI .i64 b fun g=>consT h fun b i=>asI .i64 b fun h=>consT i fun b j=>asI .i64 b fun i=>endT j <| consV c fun b j=>asT b fun c=>asB c fun b=>endV j <| endB d <|
(bif (!b) then
 some ((.tup [.t (.agg [.int .i64 0, .int .i64 0, .int .i64 0, .list 5 false []]), .t (.int .i64 (IntKind.i64.wrap (D+1))), .t (.int .i64 6)]),⟨[],[]⟩)
else
 needC (decide ((N.length+1)*(40+1)≤70368744177664) &&decide (40≤1048576)) fun _=>L11_12 (lines8z) (lines8) (A) (B) (C) ((IntKind.i64.wrap (D+1))) (E) (F) (G) (H) (I) (J) (K) (L) ((M || true)) ((N++([.agg [.int .i64 a, .int .i64 f, .int .i64 g, .int .i64 h, .int .i64 i]]:List T))))
else
 callK (vr 27 0 [.t (.agg [.int .i64 J, .int .i64 K, .int .i64 L, .list 5 M N])] ⟨[],[]⟩) fun a b=>asT a fun c=>asI .i64 c fun a=>endB b <|
(bif (!decide (a=0)) then
 some ((.tup [.t (.agg [.int .i64 0, .int .i64 0, .int .i64 0, .list 5 false []]), .t (.int .i64 0), .t (.int .i64 1)]),⟨[],[]⟩)
else
 some ((.tup [.t (.agg [.int .i64 J, .int .i64 K, .int .i64 L, .list 5 M N]), .t (.int .i64 (lines8.length:Int)), .t (.int .i64 0)]),⟨[],[]⟩)))
theorem L11_12g(KL11_12:Env→St→Option Res)(lines8z:Bool)(lines8:List T)(A:Bool)(B:List T)(C D E F G:Int)(H:Bool)(I:List T)(J K L:Int)(M:Bool)(N:List T) :WL11_12 (fun e st=>gP 11 0 119 Try.f11 (Ta11 KL11_12) (.lp::PaL11_12) e st) lines8z lines8 A B C D E F G H I J K L M N=RL11_12 (WL11_12 KL11_12) lines8z lines8 A B C D E F G H I J K L M N:=by kernel_rfl
theorem L11_12_eq(lines8z:Bool)(lines8:List T)(A:Bool)(B:List T)(C D E F G:Int)(H:Bool)(I:List T)(J K L:Int)(M:Bool)(N:List T) :L11_12 lines8z lines8 A B C D E F G H I J K L M N=RL11_12 L11_12 lines8z lines8 A B C D E F G H I J K L M N:=
 (congrArg (fun k=>WL11_12 k lines8z lines8 A B C D E F G H I J K L M N) (funext fun e=>funext fun st=>round_eq Try.prog hint (b:=(nav (List.reverse (.lp::PaL11_12)) (bodyOf Try.f11))) (fn:=Try.f11) (nt:=119) (T:=(Ta11 VL11_12)) [PaL11_12] rfl PaL11_12 e st rfl rfl rfl)).trans (L11_12g VL11_12 lines8z lines8 A B C D E F G H I J K L M N)
noncomputable def R12(L12_4:YL12_4)(A B C:Int)(D:Bool)(E:List T)(F G H:Int)(I:Bool)(J:List T) :Option Res:=
(bif (!decide (A=F)) then
 some ((.t (.bool false)),⟨[],[]⟩)
else
(bif (!decide (B=G)) then
 some ((.t (.bool false)),⟨[],[]⟩)
else
(bif (!decide (C=H)) then
 some ((.t (.bool false)),⟨[],[]⟩)
else
(bif (!decide ((E.length:Int)=(J.length:Int))) then
 some ((.t (.bool false)),⟨[],[]⟩)
else
 L12_4 ((E.length:Int)) (0) (A) (B) (C) (D) (E) (F) (G) (H) (I) (J)))))
theorem eq12g(KL12_4:Env→St→Option Res)(A B C:Int)(D:Bool)(E:List T)(F G H:Int)(I:Bool)(J:List T) :gE 12 0 52 Try.f12 (Ta12 KL12_4) [.t (.agg [.int .i64 A, .int .i64 B, .int .i64 C, .list 5 D E]), .t (.agg [.int .i64 F, .int .i64 G, .int .i64 H, .list 5 I J])] ⟨[],[]⟩=R12 (WL12_4 KL12_4) A B C D E F G H I J:=by kernel_rfl
theorem eq12(A B C:Int)(D:Bool)(E:List T)(F G H:Int)(I:Bool)(J:List T) :vr 12 0 [.t (.agg [.int .i64 A, .int .i64 B, .int .i64 C, .list 5 D E]), .t (.agg [.int .i64 F, .int .i64 G, .int .i64 H, .list 5 I J])] ⟨[],[]⟩=R12 L12_4 A B C D E F G H I J:=
 Eq.trans (call_eq Try.prog hint (fn:=Try.f12) (nt:=52) (T:=(Ta12 VL12_4)) [PaL12_4] rfl _ _ rfl rfl rfl rfl rfl) (eq12g VL12_4 A B C D E F G H I J)
noncomputable def RL12_4(L12_4:YL12_4)(A B C D E:Int)(F:Bool)(G:List T)(H I J:Int)(K:Bool)(L:List T) :Option Res:=
(bif (decide (B<A)) then
 needC (decide (0≤B)) fun _=>getT G (B).toNat fun a=>asA a fun b=>consT b fun a c=>asI .i64 a fun b=>consT c fun a d=>asI .i64 a fun c=>consT d fun a f=>asI .i64 a fun d=>consT f fun a g=>asI .i64 a fun f=>consT g fun a h=>asI .i64 a fun g=>endT h <| needC (decide (0≤B)) fun _=>getT L (B).toNat fun a=>asA a fun h=>consT h fun a i=>asI .i64 a fun h=>consT i fun a j=>asI .i64 a fun i=>consT j fun a k=>asI .i64 a fun j=>consT k fun a l=>asI .i64 a fun k=>consT l fun a m=>asI .i64 a fun l=>endT m <|
(bif (!(decide (b=h) &&(decide (c=i) &&(decide (d=j) &&(decide (f=k) &&(decide (g=l) &&true)))))) then
 some ((.t (.bool false)),⟨[],[]⟩)
else
 L12_4 (A) ((IntKind.i64.wrap (B+1))) (C) (D) (E) (F) (G) (H) (I) (J) (K) (L))
else
 some ((.t (.bool true)),⟨[],[]⟩))
theorem L12_4g(KL12_4:Env→St→Option Res)(A B C D E:Int)(F:Bool)(G:List T)(H I J:Int)(K:Bool)(L:List T) :WL12_4 (fun e st=>gP 12 0 52 Try.f12 (Ta12 KL12_4) (.lp::PaL12_4) e st) A B C D E F G H I J K L=RL12_4 (WL12_4 KL12_4) A B C D E F G H I J K L:=by kernel_rfl
theorem L12_4_eq(A B C D E:Int)(F:Bool)(G:List T)(H I J:Int)(K:Bool)(L:List T) :L12_4 A B C D E F G H I J K L=RL12_4 L12_4 A B C D E F G H I J K L:=
 (congrArg (fun k=>WL12_4 k A B C D E F G H I J K L) (funext fun e=>funext fun st=>round_eq Try.prog hint (b:=(nav (List.reverse (.lp::PaL12_4)) (bodyOf Try.f12))) (fn:=Try.f12) (nt:=52) (T:=(Ta12 VL12_4)) [PaL12_4] rfl PaL12_4 e st rfl rfl rfl)).trans (L12_4g VL12_4 A B C D E F G H I J K L)
noncomputable def R3(A:ByteArray) :Option Res:=callK (vr 9 0 [] ⟨[],[]⟩) fun a b=>asT a fun c=>asB c fun a=>endB b <|
(bif (decide (20000<(A.size:Int))) then
 some ((.t (.bool a)),⟨[],[]⟩)
else
 callK (vr 10 0 [.t (.str A)] ⟨[],[]⟩) fun b c=>asTup b fun d=>consV d fun b f=>asT b fun d=>asA d fun b=>consT b fun d g=>asI .i64 d fun b=>consT g fun d h=>asI .i64 d fun g=>consT h fun d i=>asI .i64 d fun h=>consT i fun d j=>asL 5 d fun i k=>endT j <| consV f fun d j=>asT d fun f=>asI .i64 f fun d=>consV j fun f l=>asT f fun j=>asI .i64 j fun f=>endV l <| endB c <| callK (vr 11 0 [.t (.str A)] ⟨[],[]⟩) fun c j=>asTup c fun l=>consV l fun c m=>asT c fun l=>asA l fun c=>consT c fun l n=>asI .i64 l fun c=>consT n fun l o=>asI .i64 l fun n=>
 consT o fun l p=>asI .i64 l fun o=>consT p fun l q=>asL 5 l fun p r=>endT q <| consV m fun l q=>asT l fun m=>asI .i64 m fun l=>consV q fun m s=>asT m fun q=>asI .i64 q fun m=>endV s <| endB j <|
(bif a then
 callK (vr 12 0 [.t (.agg [.int .i64 b, .int .i64 g, .int .i64 h, .list 5 i k]), .t (.agg [.int .i64 c, .int .i64 n, .int .i64 o, .list 5 p r])] ⟨[],[]⟩) fun a j=>asT a fun b=>asB b fun a=>endB j <|
(bif a then
(bif (decide (d=l)) then
 some ((.t (.bool (decide (f=m)))),⟨[],[]⟩)
else
 some ((.t (.bool false)),⟨[],[]⟩))
else
 some ((.t (.bool false)),⟨[],[]⟩))
else
 some ((.t (.bool false)),⟨[],[]⟩)))
theorem eq3g(A:ByteArray) :gE 3 0 43 Try.f3 [] [.t (.str A)] ⟨[],[]⟩=R3 A:=by kernel_rfl
theorem eq3(A:ByteArray) :vr 3 0 [.t (.str A)] ⟨[],[]⟩=R3 A:=
 Eq.trans (call_eq Try.prog hint (fn:=Try.f3) (nt:=43) (T:=[]) [] rfl _ _ rfl rfl rfl rfl rfl) (eq3g A)
end Go.Proofs.Ytifkgdmiojnllaa.VM
