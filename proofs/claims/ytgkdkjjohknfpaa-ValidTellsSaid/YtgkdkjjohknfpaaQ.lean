/- The equations, the second part. Conditions: none. -/
import Derived.Test.YtgkdkjjohknfpaaQa
set_option linter.all false
namespace Go.Proofs.Ytgkdkjjohknfpaa.VM
open Go AM
noncomputable def RL56_5(L56_5:YL56_5)(J56_12:YJ56_12)(L56_13:YL56_13)(A B C:Int)(D:Bool)(E:List T)(F G H:Int)(I:Bool)(J:List T)(K:Bool)(L:List T)(M:Bool)(N:List T)(O:Bool)(P:List T) :Option Res:=
(bif (decide (0<(P.length:Int))) then
 needC (decide (0≤(IntKind.i64.wrap ((P.length:Int) - 1))) &&decide ((IntKind.i64.wrap ((P.length:Int) - 1))<(P.length:Int))) fun _=>getT P (((IntKind.i64.wrap ((P.length:Int) - 1))).toNat) fun a=>asI .i64 a fun b=>cutN 1 O P none (some (IntKind.i64.wrap ((P.length:Int) - 1))) fun a=>needC (decide (0≤b) &&decide (b<(L.length:Int))) fun _=>getT L ((b).toNat) fun c=>asA c fun d=>consT d fun c f=>asI .u64 c fun d=>consT f fun c g=>asI .u64 c fun f=>endT g <| needC (decide (0≤b)) fun _=>getT E (b).toNat fun c=>asA c fun g=>consT g fun c h=>asI .i64 c fun g=>
 consT h fun c i=>asI .i64 c fun h=>consT i fun c j=>asI .i64 c fun i=>consT j fun c k=>asI .i64 c fun j=>consT k fun c l=>asI .i64 c fun k=>endT l <| callK (vr 16 0 [.t (.agg [.int .i64 g, .int .i64 h, .int .i64 i, .int .i64 j, .int .i64 k])] ⟨[],[]⟩) fun c l=>asTup c fun g=>consV g fun c h=>asT c fun g=>asI .i64 g fun c=>consV h fun g i=>asT g fun h=>asB h fun g=>endV i <| endB l <|
(bif g then
 callK (vr 78 0 [.t (.agg [.int .u64 d, .int .u64 f]), .t (.int .i64 c)] ⟨[],[]⟩) fun g h=>asT g fun c=>asA c fun g=>consT g fun c i=>asI .u64 c fun g=>consT i fun c j=>asI .u64 c fun i=>endT j <| endB h <| J56_12 (b) (A) (B) (C) (D) (E) (F) (G) (H) (I) (J) (K) (L) (M) (N) (true) (a) ([.int .u64 g, .int .u64 i])
else
 J56_12 (b) (A) (B) (C) (D) (E) (F) (G) (H) (I) (J) (K) (L) (M) (N) (true) (a) ([.int .u64 d, .int .u64 f]))
else
 some ((.ptr 500 0 0),⟨[(500, .var [.t (.int .i64 F), .t (.int .i64 G), .t (.int .i64 H), .t (.list 5 I J), .buf 501, .buf 502]),(501, .arr true 2 K L),(502, .arr true 1 M N)],[500,501,502]⟩))
theorem L56_5g(KL56_5 KJ56_12 KL56_13:Env→St→Option Res)(A B C:Int)(D:Bool)(E:List T)(F G H:Int)(I:Bool)(J:List T)(K:Bool)(L:List T)(M:Bool)(N:List T)(O:Bool)(P:List T) :WL56_5 (fun e st=>gP 56 0 82 Try.f56 (Ta56 KL56_5 KJ56_12 KL56_13) (.lp::PaL56_5) e st) A B C D E F G H I J K L M N O P=RL56_5 (WL56_5 KL56_5) (WJ56_12 KJ56_12) (WL56_13 KL56_13) A B C D E F G H I J K L M N O P:=by kernel_rfl
theorem L56_5_eq(A B C:Int)(D:Bool)(E:List T)(F G H:Int)(I:Bool)(J:List T)(K:Bool)(L:List T)(M:Bool)(N:List T)(O:Bool)(P:List T) :L56_5 A B C D E F G H I J K L M N O P=RL56_5 L56_5 J56_12 L56_13 A B C D E F G H I J K L M N O P:=
 (congrArg (fun k=>WL56_5 k A B C D E F G H I J K L M N O P) (funext fun e=>funext fun st=>round_eq Try.prog hint (b:=(nav (List.reverse (.lp::PaL56_5)) (bodyOf Try.f56))) (fn:=Try.f56) (nt:=82) (T:=(Ta56 VL56_5 VJ56_12 VL56_13)) [PaL56_5,PaJ56_12,PaL56_13] rfl PaL56_5 e st rfl rfl rfl)).trans (L56_5g VL56_5 VJ56_12 VL56_13 A B C D E F G H I J K L M N O P)
noncomputable def RJ56_12(L56_5:YL56_5)(J56_12:YJ56_12)(L56_13:YL56_13)(i6 A B C:Int)(D:Bool)(E:List T)(F G H:Int)(I:Bool)(J:List T)(K:Bool)(L:List T)(M:Bool)(N:List T)(O:Bool)(P Q:List T) :Option Res:=needC (decide (0≤i6)) fun _=>getT E (i6).toNat fun a=>asA a fun b=>consT b fun a c=>asI .i64 a fun b=>consT c fun a d=>asI .i64 a fun c=>consT d fun a f=>asI .i64 a fun d=>consT f fun a g=>asI .i64 a fun f=>consT g fun a h=>asI .i64 a fun g=>endT h <| callK (vr 11 0 [.t (.agg [.int .i64 b, .int .i64 c, .int .i64 d, .int .i64 f, .int .i64 g]), .t (.int .i64 i6)] ⟨[],[]⟩) fun a h=>
 asT a fun b=>asL 1 b fun a c=>endB h <| L56_13 (a) (c) ((c.length:Int)) (0) (A) (B) (C) (D) (E) (F) (G) (H) (I) (J) (K) (L) (M) (N) (O) (P) (Q)
theorem J56_12g(KL56_5 KJ56_12 KL56_13:Env→St→Option Res)(i6 A B C:Int)(D:Bool)(E:List T)(F G H:Int)(I:Bool)(J:List T)(K:Bool)(L:List T)(M:Bool)(N:List T)(O:Bool)(P Q:List T) :WJ56_12 (fun e st=>gP 56 0 82 Try.f56 (Ta56 KL56_5 KJ56_12 KL56_13) PaJ56_12 e st) i6 A B C D E F G H I J K L M N O P Q=RJ56_12 (WL56_5 KL56_5) (WJ56_12 KJ56_12) (WL56_13 KL56_13) i6 A B C D E F G H I J K L M N O P Q:=by kernel_rfl
theorem J56_12_eq(i6 A B C:Int)(D:Bool)(E:List T)(F G H:Int)(I:Bool)(J:List T)(K:Bool)(L:List T)(M:Bool)(N:List T)(O:Bool)(P Q:List T) :J56_12 i6 A B C D E F G H I J K L M N O P Q=RJ56_12 L56_5 J56_12 L56_13 i6 A B C D E F G H I J K L M N O P Q:=
 (congrArg (fun k=>WJ56_12 k i6 A B C D E F G H I J K L M N O P Q) (funext fun e=>funext fun st=>join_eq Try.prog hint (fn:=Try.f56) (nt:=82) (T:=(Ta56 VL56_5 VJ56_12 VL56_13)) [PaL56_5,PaJ56_12,PaL56_13] rfl PaJ56_12 e st rfl)).trans (J56_12g VL56_5 VJ56_12 VL56_13 i6 A B C D E F G H I J K L M N O P Q)
noncomputable def RL56_13(L56_5:YL56_5)(J56_12:YJ56_12)(L56_13:YL56_13)(A:Bool)(B:List T)(C D E F G:Int)(H:Bool)(I:List T)(J K L:Int)(M:Bool)(N:List T)(O:Bool)(P:List T)(Q:Bool)(R:List T)(S:Bool)(U V:List T) :Option Res:=
(bif (decide (D<C)) then
 needC (decide (0≤D)) fun _=>getT B (D).toNat fun a=>asI .i64 a fun b=>consT (((V.drop 0).take 2)) fun a c=>asI .u64 a fun d=>consT c fun a f=>asI .u64 a fun c=>endT f <| callK (vr 76 0 [.t (.int .i64 b), .t (.agg [.int .u64 d, .int .u64 c]), .ptr 0 0 0, .ptr 4 0 0] ⟨[(0, .var [.ptr 1 0 0]),(1, .var [.t (.int .i64 J), .t (.int .i64 K), .t (.int .i64 L), .t (.list 5 M N), .buf 2, .buf 3]),(2, .arr true 2 O P),(3, .arr true 1 Q R),(4, .var [.buf 5]),(5, .arr true 1 S U)],[]⟩) fun a f=>
(bif fitsH (.tup []) [(0, .var [.ptr 1 0 0]),(1, .var [.t (.int .i64), .t (.int .i64), .t (.int .i64), .t (.list 5), .buf 2, .buf 3]),(2, .arr 2),(3, .arr 1),(4, .var [.buf 5]),(5, .arr 1)] a f then
 asTup a fun b=>endV b <| consB 0 f fun b c=>asVar b fun d=>consV d fun b g=>isPtr 1 0 0 b <| endV g <| consB 1 c fun b d=>asVar b fun c=>consV c fun b g=>asT b fun c=>asI .i64 c fun b=>consV g fun c h=>asT c fun g=>asI .i64 g fun c=>consV h fun g i=>asT g fun h=>asI .i64 h fun g=>consV i fun h j=>asT h fun i=>asL 5 i fun h k=>consV j fun i l=>isBuf 2 i <| consV l fun i j=>isBuf 3 i <| endV j <| consB 2 d fun i j=>asArr 2 i fun d l=>consB 3 j fun i m=>asArr 1 i fun j n=>consB 4 m fun i o=>asVar i fun m=>consV m fun i p=>isBuf 5 i <| endV p <|
 consB 5 o fun i m=>asArr 1 i fun o p=>endB m <| L56_13 (A) (B) (C) ((IntKind.i64.wrap (D+1))) (E) (F) (G) (H) (I) (b) (c) (g) (h) (k) (d) (l) (j) (n) (o) (p) (V)
else
 asTup a fun b=>endV b <| consB 0 f fun a b=>asVar a fun c=>consV c fun a d=>isPtr 1 0 0 a <| endV d <| consB 1 b fun a c=>asVar a fun b=>consV b fun a d=>asT a fun b=>asI .i64 b fun a=>consV d fun b f=>asT b fun d=>asI .i64 d fun b=>consV f fun d g=>asT d fun f=>asI .i64 f fun d=>consV g fun f h=>asT f fun g=>asL 5 g fun f i=>consV h fun g j=>isBuf 2 g <| consV j fun g h=>isBuf 3 g <| endV h <| consB 2 c fun g h=>asArr 2 g fun c j=>consB 3 h fun g k=>asArr 1 g fun h l=>consB 4 k fun g m=>asVar g fun k=>consV k fun g n=>isBuf 500 g <| endV n <|
 consB 500 m fun g k=>asArr 1 g fun m n=>endB k <| L56_13 (A) (B) (C) ((IntKind.i64.wrap (D+1))) (E) (F) (G) (H) (I) (a) (b) (d) (f) (i) (c) (j) (h) (l) (m) (n) (V))
else
 L56_5 (E) (F) (G) (H) (I) (J) (K) (L) (M) (N) (O) (P) (Q) (R) (S) (U))
theorem L56_13g(KL56_5 KJ56_12 KL56_13:Env→St→Option Res)(A:Bool)(B:List T)(C D E F G:Int)(H:Bool)(I:List T)(J K L:Int)(M:Bool)(N:List T)(O:Bool)(P:List T)(Q:Bool)(R:List T)(S:Bool)(U V:List T) :WL56_13 (fun e st=>gP 56 0 82 Try.f56 (Ta56 KL56_5 KJ56_12 KL56_13) (.lp::PaL56_13) e st) A B C D E F G H I J K L M N O P Q R S U V=RL56_13 (WL56_5 KL56_5) (WJ56_12 KJ56_12) (WL56_13 KL56_13) A B C D E F G H I J K L M N O P Q R S U V:=by kernel_rfl
theorem L56_13_eq(A:Bool)(B:List T)(C D E F G:Int)(H:Bool)(I:List T)(J K L:Int)(M:Bool)(N:List T)(O:Bool)(P:List T)(Q:Bool)(R:List T)(S:Bool)(U V:List T) :L56_13 A B C D E F G H I J K L M N O P Q R S U V=RL56_13 L56_5 J56_12 L56_13 A B C D E F G H I J K L M N O P Q R S U V:=
 (congrArg (fun k=>WL56_13 k A B C D E F G H I J K L M N O P Q R S U V) (funext fun e=>funext fun st=>round_eq Try.prog hint (b:=(nav (List.reverse (.lp::PaL56_13)) (bodyOf Try.f56))) (fn:=Try.f56) (nt:=82) (T:=(Ta56 VL56_5 VJ56_12 VL56_13)) [PaL56_5,PaJ56_12,PaL56_13] rfl PaL56_13 e st rfl rfl rfl)).trans (L56_13g VL56_5 VJ56_12 VL56_13 A B C D E F G H I J K L M N O P Q R S U V)
noncomputable def R33(A B C:Int)(D:Bool)(E:List T) :Option Res:=callK (vr 18 0 [.t (.agg [.int .i64 A, .int .i64 B, .int .i64 C, .list 5 D E])] ⟨[],[]⟩) fun a b=>asT a fun c=>asI .i64 c fun a=>endB b <|
(bif (!decide (a=0)) then
 some ((.tup [.con (.pointer none), .t (.int .i64 a)]),⟨[],[]⟩)
else
 callK (vr 56 0 [.t (.agg [.int .i64 A, .int .i64 B, .int .i64 C, .list 5 D E])] ⟨[],[]⟩) fun a b=>isPtr 500 0 0 a <| consB 500 b fun a c=>asVar a fun b=>consV b fun a d=>asT a fun b=>asI .i64 b fun a=>consV d fun b f=>asT b fun d=>asI .i64 d fun b=>consV f fun d g=>asT d fun f=>asI .i64 f fun d=>consV g fun f h=>asT f fun g=>asL 5 g fun f i=>consV h fun g j=>isBuf 501 g <| consV j fun g h=>isBuf 502 g <| endV h <| consB 501 c fun g h=>asArr 2 g fun c j=>consB 502 h fun g k=>asArr 1 g fun h l=>endB k <| some ((.tup [.ptr 500 0 0, .t (.int .i64 0)]),⟨[(500, .var [.t (.int .i64 a), .t (.int .i64 b), .t (.int .i64 d), .t (.list 5 f i), .buf 501, .buf 502]),(501, .arr true 2 c j),(502, .arr true 1 h l)],[500,501,502]⟩))
theorem eq33g(A B C:Int)(D:Bool)(E:List T) :gE 33 0 12 Try.f33 [] [.t (.agg [.int .i64 A, .int .i64 B, .int .i64 C, .list 5 D E])] ⟨[],[]⟩=R33 A B C D E:=by kernel_rfl
theorem eq33(A B C:Int)(D:Bool)(E:List T) :vr 33 0 [.t (.agg [.int .i64 A, .int .i64 B, .int .i64 C, .list 5 D E])] ⟨[],[]⟩=R33 A B C D E:=
 Eq.trans (call_eq Try.prog hint (fn:=Try.f33) (nt:=12) (T:=[]) [] rfl _ _ rfl rfl rfl rfl rfl) (eq33g A B C D E)
noncomputable def R15(A B C D E:Int) :Option Res:=callK (vr 38 0 [.t (.int .i64 A)] ⟨[],[]⟩) fun a b=>asTup a fun c=>consV c fun a d=>asT a fun c=>asA c fun a=>consT a fun c f=>asS c fun a=>consT f fun a c=>asI .i64 a fun f=>consT c fun a g=>asI .i64 a fun c=>consT g fun a h=>asI .i64 a fun g=>endT h <| consV d fun a h=>asT a fun d=>asB d fun a=>endV h <| endB b <| callK (vr 42 0 [.ptr 0 0 0] ⟨[(0, .var [.t (.int .i64 A), .t (.int .i64 B), .t (.int .i64 C), .t (.int .i64 D), .t (.int .i64 E)])],[]⟩) fun a b=>asG a fun d=>consV d fun a h=>isPtr 0 0 1 a <|
 consV h fun a d=>isPtr 0 0 2 a <| consV d fun a h=>isPtr 0 0 3 a <| endV h <| consB 0 b fun a d=>asVar a fun b=>consV b fun a h=>asT a fun b=>asI .i64 b fun a=>consV h fun a b=>asT a fun h=>asI .i64 h fun a=>consV b fun h i=>asT h fun b=>asI .i64 b fun h=>consV i fun b j=>asT b fun i=>asI .i64 i fun b=>consV j fun i k=>asT i fun j=>asI .i64 j fun i=>endV k <| endB d <|
(bif (decide (f=2)) then
(bif (decide (c=2)) then
(bif (decide (g=2)) then
 some ((.t (.list 1 true [.int .i64 a, .int .i64 h, .int .i64 b])),⟨[],[]⟩)
else
 some ((.t (.list 1 true [.int .i64 a, .int .i64 h])),⟨[],[]⟩))
else
(bif (decide (g=2)) then
 some ((.t (.list 1 true [.int .i64 a, .int .i64 b])),⟨[],[]⟩)
else
 some ((.t (.list 1 true [.int .i64 a])),⟨[],[]⟩)))
else
(bif (decide (c=2)) then
(bif (decide (g=2)) then
 some ((.t (.list 1 true [.int .i64 h, .int .i64 b])),⟨[],[]⟩)
else
 some ((.t (.list 1 true [.int .i64 h])),⟨[],[]⟩))
else
(bif (decide (g=2)) then
 some ((.t (.list 1 true [.int .i64 b])),⟨[],[]⟩)
else
 some ((.t (.list 1 false [])),⟨[],[]⟩))))
theorem eq15g(A B C D E:Int) :gE 15 0 31 Try.f15 [] [.t (.agg [.int .i64 A, .int .i64 B, .int .i64 C, .int .i64 D, .int .i64 E])] ⟨[],[]⟩=R15 A B C D E:=by kernel_rfl
theorem eq15(A B C D E:Int) :vr 15 0 [.t (.agg [.int .i64 A, .int .i64 B, .int .i64 C, .int .i64 D, .int .i64 E])] ⟨[],[]⟩=R15 A B C D E:=
 Eq.trans (call_eq Try.prog hint (fn:=Try.f15) (nt:=31) (T:=[]) [] rfl _ _ rfl rfl rfl rfl rfl) (eq15g A B C D E)
noncomputable def R39(A B C:Int) :Option Res:=needC (decide (0≤(shrI .i64 C 6)) &&decide ((shrI .i64 C 6)<(2:Int))) fun _=>getT ([.int .u64 A, .int .u64 B]) ((0+((shrI .i64 C 6)).toNat*1)) fun a=>asI .u64 a fun b=>needC (decide (0≤(bitsI .and .i64 C 63))) fun _=>some ((.t (.bool (decide ((bitsI .and .u64 (shrI .u64 b (bitsI .and .i64 C 63)) 1)=1)))),⟨[],[]⟩)
theorem eq39g(A B C:Int) :gE 39 0 14 Try.f39 [] [.t (.agg [.int .u64 A, .int .u64 B]), .t (.int .i64 C)] ⟨[],[]⟩=R39 A B C:=by kernel_rfl
theorem eq39(A B C:Int) :vr 39 0 [.t (.agg [.int .u64 A, .int .u64 B]), .t (.int .i64 C)] ⟨[],[]⟩=R39 A B C:=
 Eq.trans (call_eq Try.prog hint (fn:=Try.f39) (nt:=14) (T:=[]) [] rfl _ _ rfl rfl rfl rfl rfl) (eq39g A B C)
noncomputable def R62(A B C D:Int)(E:Bool)(F:List T)(G:Bool)(H:List T)(I:Bool)(J:List T)(K:Int) :Option Res:=needC (decide (0≤K) &&decide (K<(H.length:Int))) fun _=>getT H ((K).toNat) fun a=>asA a fun b=>consT b fun a c=>asI .u64 a fun b=>consT c fun a d=>asI .u64 a fun c=>endT d <| callK (vr 39 0 [.t (.agg [.int .u64 b, .int .u64 c]), .t (.int .i64 A)] ⟨[],[]⟩) fun a d=>asT a fun b=>asB b fun a=>endB d <| some ((.t (.bool (!a))),(Z4 B C D E F G H I J K))
theorem eq62g(A B C D:Int)(E:Bool)(F:List T)(G:Bool)(H:List T)(I:Bool)(J:List T)(K:Int) :gE 62 0 15 Try.f62 [] [.t (.int .i64 A), .ptr 0 0 0, .ptr 4 0 0] ⟨[(0, .var [.ptr 1 0 0]),(1, .var [.t (.int .i64 B), .t (.int .i64 C), .t (.int .i64 D), .t (.list 5 E F), .buf 2, .buf 3]),(2, .arr true 2 G H),(3, .arr true 1 I J),(4, .var [.t (.int .i64 K)])],[]⟩=R62 A B C D E F G H I J K:=by kernel_rfl
theorem eq62(A B C D:Int)(E:Bool)(F:List T)(G:Bool)(H:List T)(I:Bool)(J:List T)(K:Int) :vr 62 0 [.t (.int .i64 A), .ptr 0 0 0, .ptr 4 0 0] ⟨[(0, .var [.ptr 1 0 0]),(1, .var [.t (.int .i64 B), .t (.int .i64 C), .t (.int .i64 D), .t (.list 5 E F), .buf 2, .buf 3]),(2, .arr true 2 G H),(3, .arr true 1 I J),(4, .var [.t (.int .i64 K)])],[]⟩=R62 A B C D E F G H I J K:=
 Eq.trans (call_eq Try.prog hint (fn:=Try.f62) (nt:=15) (T:=[]) [] rfl _ _ rfl rfl rfl rfl rfl) (eq62g A B C D E F G H I J K)
noncomputable def R57(L57_2:YL57_2)(A:Bool)(B:List T)(C D E:Int)(F:Bool)(G:List T)(H:Bool)(I:List T)(J:Bool)(K:List T)(L:Int) :Option Res:=L57_2 (A) (B) ((B.length:Int)) (0) (C) (D) (E) (F) (G) (H) (I) (J) (K) (L)
theorem eq57g(KL57_2:Env→St→Option Res)(A:Bool)(B:List T)(C D E:Int)(F:Bool)(G:List T)(H:Bool)(I:List T)(J:Bool)(K:List T)(L:Int) :gE 57 0 19 Try.f57 (Ta57 KL57_2) [.t (.list 1 A B), .fn 62 [] [.ptr 0 0 0, .ptr 4 0 0]] ⟨[(0, .var [.ptr 1 0 0]),(1, .var [.t (.int .i64 C), .t (.int .i64 D), .t (.int .i64 E), .t (.list 5 F G), .buf 2, .buf 3]),(2, .arr true 2 H I),(3, .arr true 1 J K),(4, .var [.t (.int .i64 L)])],[]⟩=R57 (WL57_2 KL57_2) A B C D E F G H I J K L:=by kernel_rfl
theorem eq57(A:Bool)(B:List T)(C D E:Int)(F:Bool)(G:List T)(H:Bool)(I:List T)(J:Bool)(K:List T)(L:Int) :vr 57 0 [.t (.list 1 A B), .fn 62 [] [.ptr 0 0 0, .ptr 4 0 0]] ⟨[(0, .var [.ptr 1 0 0]),(1, .var [.t (.int .i64 C), .t (.int .i64 D), .t (.int .i64 E), .t (.list 5 F G), .buf 2, .buf 3]),(2, .arr true 2 H I),(3, .arr true 1 J K),(4, .var [.t (.int .i64 L)])],[]⟩=R57 L57_2 A B C D E F G H I J K L:=
 Eq.trans (call_eq Try.prog hint (fn:=Try.f57) (nt:=19) (T:=(Ta57 VL57_2)) [PaL57_2] rfl _ _ rfl rfl rfl rfl rfl) (eq57g VL57_2 A B C D E F G H I J K L)
noncomputable def RL57_2(L57_2:YL57_2)(s0z:Bool)(s0:List T)(A B C D E:Int)(F:Bool)(G:List T)(H:Bool)(I:List T)(J:Bool)(K:List T)(L:Int) :Option Res:=
(bif (decide (B<A)) then
 needC (decide (0≤B)) fun _=>getT s0 (B).toNat fun a=>asI .i64 a fun b=>callK (vr 62 0 [.t (.int .i64 b), .ptr 0 0 0, .ptr 4 0 0] (Z5 C D E F G H I J K L)) fun a c=>asT a fun b=>asB b fun a=>consB 0 c fun b d=>asVar b fun c=>consV c fun b f=>isPtr 1 0 0 b <| endV f <| consB 1 d fun b c=>asVar b fun d=>consV d fun b f=>asT b fun d=>asI .i64 d fun b=>consV f fun d g=>asT d fun f=>asI .i64 f fun d=>consV g fun f h=>asT f fun g=>asI .i64 g fun f=>consV h fun g i=>asT g fun h=>asL 5 h fun g j=>consV i fun h k=>isBuf 2 h <| consV k fun h i=>isBuf 3 h <|
 endV i <| consB 2 c fun h i=>asArr 2 h fun c k=>consB 3 i fun h l=>asArr 1 h fun i m=>consB 4 l fun h n=>asVar h fun l=>consV l fun h o=>asT h fun l=>asI .i64 l fun h=>endV o <| endB n <|
(bif a then
 some ((.t (.int .i64 B)),(Z4 b d f g j c k i m h))
else
 L57_2 (s0z) (s0) (A) ((IntKind.i64.wrap (B+1))) (b) (d) (f) (g) (j) (c) (k) (i) (m) (h))
else
 some ((.t (.int .i64 (-1))),(Z4 C D E F G H I J K L)))
theorem L57_2g(KL57_2:Env→St→Option Res)(s0z:Bool)(s0:List T)(A B C D E:Int)(F:Bool)(G:List T)(H:Bool)(I:List T)(J:Bool)(K:List T)(L:Int) :WL57_2 (fun e st=>gP 57 0 19 Try.f57 (Ta57 KL57_2) (.lp::PaL57_2) e st) s0z s0 A B C D E F G H I J K L=RL57_2 (WL57_2 KL57_2) s0z s0 A B C D E F G H I J K L:=by kernel_rfl
theorem L57_2_eq(s0z:Bool)(s0:List T)(A B C D E:Int)(F:Bool)(G:List T)(H:Bool)(I:List T)(J:Bool)(K:List T)(L:Int) :L57_2 s0z s0 A B C D E F G H I J K L=RL57_2 L57_2 s0z s0 A B C D E F G H I J K L:=
 (congrArg (fun k=>WL57_2 k s0z s0 A B C D E F G H I J K L) (funext fun e=>funext fun st=>round_eq Try.prog hint (b:=(nav (List.reverse (.lp::PaL57_2)) (bodyOf Try.f57))) (fn:=Try.f57) (nt:=19) (T:=(Ta57 VL57_2)) [PaL57_2] rfl PaL57_2 e st rfl rfl rfl)).trans (L57_2g VL57_2 s0z s0 A B C D E F G H I J K L)
noncomputable def R36(A:Bool)(B:List T)(C D E:Int)(F:Bool)(G:List T)(H:Bool)(I:List T)(J:Bool)(K:List T)(L:Int) :Option Res:=callK (vr 57 0 [.t (.list 1 A B), .fn 62 [] [.ptr 0 0 0, .ptr 4 0 0]] (Z5 C D E F G H I J K L)) fun a b=>asT a fun c=>asI .i64 c fun a=>consB 0 b fun c d=>asVar c fun b=>consV b fun c f=>isPtr 1 0 0 c <| endV f <| consB 1 d fun b c=>asVar b fun d=>consV d fun b f=>asT b fun d=>asI .i64 d fun b=>consV f fun d g=>asT d fun f=>asI .i64 f fun d=>consV g fun f h=>asT f fun g=>asI .i64 g fun f=>consV h fun g i=>
 asT g fun h=>asL 5 h fun g j=>consV i fun h k=>isBuf 2 h <| consV k fun h i=>isBuf 3 h <| endV i <| consB 2 c fun h i=>asArr 2 h fun c k=>consB 3 i fun h l=>asArr 1 h fun i m=>consB 4 l fun h n=>asVar h fun l=>consV l fun h o=>asT h fun l=>asI .i64 l fun h=>endV o <| endB n <| some ((.t (.bool (decide (0≤a)))),(Z4 b d f g j c k i m h))
theorem eq36g(A:Bool)(B:List T)(C D E:Int)(F:Bool)(G:List T)(H:Bool)(I:List T)(J:Bool)(K:List T)(L:Int) :gE 36 0 9 Try.f36 [] [.t (.list 1 A B), .fn 62 [] [.ptr 0 0 0, .ptr 4 0 0]] ⟨[(0, .var [.ptr 1 0 0]),(1, .var [.t (.int .i64 C), .t (.int .i64 D), .t (.int .i64 E), .t (.list 5 F G), .buf 2, .buf 3]),(2, .arr true 2 H I),(3, .arr true 1 J K),(4, .var [.t (.int .i64 L)])],[]⟩=R36 A B C D E F G H I J K L:=by kernel_rfl
theorem eq36(A:Bool)(B:List T)(C D E:Int)(F:Bool)(G:List T)(H:Bool)(I:List T)(J:Bool)(K:List T)(L:Int) :vr 36 0 [.t (.list 1 A B), .fn 62 [] [.ptr 0 0 0, .ptr 4 0 0]] ⟨[(0, .var [.ptr 1 0 0]),(1, .var [.t (.int .i64 C), .t (.int .i64 D), .t (.int .i64 E), .t (.list 5 F G), .buf 2, .buf 3]),(2, .arr true 2 H I),(3, .arr true 1 J K),(4, .var [.t (.int .i64 L)])],[]⟩=R36 A B C D E F G H I J K L:=
 Eq.trans (call_eq Try.prog hint (fn:=Try.f36) (nt:=9) (T:=[]) [] rfl _ _ rfl rfl rfl rfl rfl) (eq36g A B C D E F G H I J K L)
noncomputable def R48(A B C D E F G H I:Int)(J:Bool)(K:List T)(L:Bool)(M:List T)(N:Bool)(O:List T) :Option Res:=callK (vr 15 0 [.t (.agg [.int .i64 B, .int .i64 C, .int .i64 D, .int .i64 E, .int .i64 F])] ⟨[],[]⟩) fun a b=>asT a fun c=>asL 1 c fun a d=>endB b <| callK (vr 36 0 [.t (.list 1 a d), .fn 62 [] [.ptr 0 0 0, .ptr 4 0 0]] (Z5 G H I J K L M N O A)) fun b c=>asT b fun a=>asB a fun b=>consB 0 c fun a d=>asVar a fun c=>consV c fun a f=>isPtr 1 0 0 a <| endV f <| consB 1 d fun a c=>asVar a fun d=>consV d fun a f=>asT a fun d=>asI .i64 d fun a=>
 consV f fun d g=>asT d fun f=>asI .i64 f fun d=>consV g fun f h=>asT f fun g=>asI .i64 g fun f=>consV h fun g i=>asT g fun h=>asL 5 h fun g j=>consV i fun h k=>isBuf 2 h <| consV k fun h i=>isBuf 3 h <| endV i <| consB 2 c fun h i=>asArr 2 h fun c k=>consB 3 i fun h l=>asArr 1 h fun i m=>consB 4 l fun h n=>asVar h fun l=>consV l fun h o=>asT h fun l=>asI .i64 l fun h=>endV o <| endB n <| some ((.t (.bool b)),(Z6 a d f g j c k i m))
theorem eq48g(A B C D E F G H I:Int)(J:Bool)(K:List T)(L:Bool)(M:List T)(N:Bool)(O:List T) :gE 48 0 11 Try.f48 [] [.ptr 0 0 0, .t (.int .i64 A), .t (.agg [.int .i64 B, .int .i64 C, .int .i64 D, .int .i64 E, .int .i64 F])] ⟨[(0, .var [.t (.int .i64 G), .t (.int .i64 H), .t (.int .i64 I), .t (.list 5 J K), .buf 1, .buf 2]),(1, .arr true 2 L M),(2, .arr true 1 N O)],[]⟩=R48 A B C D E F G H I J K L M N O:=by kernel_rfl
theorem eq48(A B C D E F G H I:Int)(J:Bool)(K:List T)(L:Bool)(M:List T)(N:Bool)(O:List T) :vr 48 0 [.ptr 0 0 0, .t (.int .i64 A), .t (.agg [.int .i64 B, .int .i64 C, .int .i64 D, .int .i64 E, .int .i64 F])] ⟨[(0, .var [.t (.int .i64 G), .t (.int .i64 H), .t (.int .i64 I), .t (.list 5 J K), .buf 1, .buf 2]),(1, .arr true 2 L M),(2, .arr true 1 N O)],[]⟩=R48 A B C D E F G H I J K L M N O:=
 Eq.trans (call_eq Try.prog hint (fn:=Try.f48) (nt:=11) (T:=[]) [] rfl _ _ rfl rfl rfl rfl rfl) (eq48g A B C D E F G H I J K L M N O)
noncomputable def R34(L34_2:YL34_2)(A B C:Int)(D:Bool)(E:List T)(F:Bool)(G:List T)(H:Bool)(I:List T) :Option Res:=L34_2 (D) (E) ((E.length:Int)) (0) (A) (B) (C) (D) (E) (F) (G) (H) (I) (false) ([])
theorem eq34g(KL34_2:Env→St→Option Res)(A B C:Int)(D:Bool)(E:List T)(F:Bool)(G:List T)(H:Bool)(I:List T) :gE 34 0 37 Try.f34 (Ta34 KL34_2) [.ptr 0 0 0, .fn 48 [.ptr 0 0 0] []] ⟨[(0, .var [.t (.int .i64 A), .t (.int .i64 B), .t (.int .i64 C), .t (.list 5 D E), .buf 1, .buf 2]),(1, .arr true 2 F G),(2, .arr true 1 H I)],[]⟩=R34 (WL34_2 KL34_2) A B C D E F G H I:=by kernel_rfl
theorem eq34(A B C:Int)(D:Bool)(E:List T)(F:Bool)(G:List T)(H:Bool)(I:List T) :vr 34 0 [.ptr 0 0 0, .fn 48 [.ptr 0 0 0] []] ⟨[(0, .var [.t (.int .i64 A), .t (.int .i64 B), .t (.int .i64 C), .t (.list 5 D E), .buf 1, .buf 2]),(1, .arr true 2 F G),(2, .arr true 1 H I)],[]⟩=R34 L34_2 A B C D E F G H I:=
 Eq.trans (call_eq Try.prog hint (fn:=Try.f34) (nt:=37) (T:=(Ta34 VL34_2)) [PaL34_2] rfl _ _ rfl rfl rfl rfl rfl) (eq34g VL34_2 A B C D E F G H I)
noncomputable def RL34_2(L34_2:YL34_2)(A:Bool)(B:List T)(C D E F G:Int)(H:Bool)(I:List T)(J:Bool)(K:List T)(L:Bool)(M:List T)(N:Bool)(O:List T) :Option Res:=
(bif (decide (D<C)) then
 needC (decide (0≤D)) fun _=>getT B (D).toNat fun a=>asA a fun b=>consT b fun a c=>asI .i64 a fun b=>consT c fun a d=>asI .i64 a fun c=>consT d fun a f=>asI .i64 a fun d=>consT f fun a g=>asI .i64 a fun f=>consT g fun a h=>asI .i64 a fun g=>endT h <| needC (decide (0≤D) &&decide (D<(M.length:Int))) fun _=>getT M ((D).toNat) fun a=>asB a fun h=>
(bif h then
 callK (vr 48 0 [.ptr 0 0 0, .t (.int .i64 D), .t (.agg [.int .i64 b, .int .i64 c, .int .i64 d, .int .i64 f, .int .i64 g])] ⟨[(0, .var [.t (.int .i64 E), .t (.int .i64 F), .t (.int .i64 G), .t (.list 5 H I), .buf 1, .buf 2]),(1, .arr true 2 J K),(2, .arr true 1 L M)],[]⟩) fun a h=>asT a fun b=>asB b fun a=>consB 0 h fun b c=>asVar b fun d=>consV d fun b f=>asT b fun d=>asI .i64 d fun b=>consV f fun d g=>asT d fun f=>asI .i64 f fun d=>consV g fun f h=>asT f fun g=>asI .i64 g fun f=>consV h fun g i=>asT g fun h=>asL 5 h fun g j=>consV i fun h k=>isBuf 1 h <|
 consV k fun h i=>isBuf 2 h <| endV i <| consB 1 c fun h i=>asArr 2 h fun c k=>consB 2 i fun h l=>asArr 1 h fun i m=>endB l <|
(bif a then
 needC (decide ((O.length+1)*(8+1)≤70368744177664) &&decide (8≤1048576)) fun _=>L34_2 (A) (B) (C) ((IntKind.i64.wrap (D+1))) (b) (d) (f) (g) (j) (c) (k) (i) (m) ((N || true)) ((O++([.int .i64 D]:List T)))
else
 L34_2 (A) (B) (C) ((IntKind.i64.wrap (D+1))) (b) (d) (f) (g) (j) (c) (k) (i) (m) (N) (O))
else
 L34_2 (A) (B) (C) ((IntKind.i64.wrap (D+1))) (E) (F) (G) (H) (I) (J) (K) (L) (M) (N) (O))
else
 some ((.t (.list 1 N O)),(Z6 E F G H I J K L M)))
theorem L34_2g(KL34_2:Env→St→Option Res)(A:Bool)(B:List T)(C D E F G:Int)(H:Bool)(I:List T)(J:Bool)(K:List T)(L:Bool)(M:List T)(N:Bool)(O:List T) :WL34_2 (fun e st=>gP 34 0 37 Try.f34 (Ta34 KL34_2) (.lp::PaL34_2) e st) A B C D E F G H I J K L M N O=RL34_2 (WL34_2 KL34_2) A B C D E F G H I J K L M N O:=by kernel_rfl
theorem L34_2_eq(A:Bool)(B:List T)(C D E F G:Int)(H:Bool)(I:List T)(J:Bool)(K:List T)(L:Bool)(M:List T)(N:Bool)(O:List T) :L34_2 A B C D E F G H I J K L M N O=RL34_2 L34_2 A B C D E F G H I J K L M N O:=
 (congrArg (fun k=>WL34_2 k A B C D E F G H I J K L M N O) (funext fun e=>funext fun st=>round_eq Try.prog hint (b:=(nav (List.reverse (.lp::PaL34_2)) (bodyOf Try.f34))) (fn:=Try.f34) (nt:=37) (T:=(Ta34 VL34_2)) [PaL34_2] rfl PaL34_2 e st rfl rfl rfl)).trans (L34_2g VL34_2 A B C D E F G H I J K L M N O)
noncomputable def R25(A B C:Int)(D:Bool)(E:List T) :Option Res:=callK (vr 33 0 [.t (.agg [.int .i64 A, .int .i64 B, .int .i64 C, .list 5 D E])] ⟨[],[]⟩) fun a b=>
(bif fitsH (.tup [.nilp, .t (.one (.int .i64))]) [] a b then
 asTup a fun c=>consV c fun d f=>isNil d <| consV f fun c d=>asT c fun f=>asI .i64 f fun c=>endV d <| endB b <|
(bif (!decide (c=0)) then
 Z0 c
else
 callK (vr 34 0 [.con (.pointer none), .fn 48 [.con (.pointer none)] []] ⟨[],[]⟩) fun c d=>asT c fun f=>asL 1 f fun c g=>consB 0 d fun f h=>asVar f fun d=>consV d fun f i=>asT f fun d=>asI .i64 d fun f=>consV i fun d f=>asT d fun i=>asI .i64 i fun d=>consV f fun d i=>asT d fun f=>asI .i64 f fun d=>consV i fun d f=>asT d fun i=>asL 5 i fun d j=>consV f fun d i=>isBuf 1 d <| consV i fun d f=>isBuf 2 d <| endV f <| consB 1 h fun d f=>asArr 2 d fun h i=>consB 2 f fun d h=>asArr 1 d fun f i=>endB h <| some ((.tup [.t (.list 1 c g), .t (.int .i64 0)]),⟨[],[]⟩))
else
 asTup a fun c=>consV c fun a d=>isPtr 500 0 0 a <| consV d fun a c=>asT a fun d=>asI .i64 d fun a=>endV c <| consB 500 b fun c d=>asVar c fun b=>consV b fun c f=>asT c fun b=>asI .i64 b fun c=>consV f fun b g=>asT b fun f=>asI .i64 f fun b=>consV g fun f h=>asT f fun g=>asI .i64 g fun f=>consV h fun g i=>asT g fun h=>asL 5 h fun g j=>consV i fun h k=>isBuf 501 h <| consV k fun h i=>isBuf 502 h <| endV i <| consB 501 d fun h i=>asArr 2 h fun d k=>consB 502 i fun h l=>asArr 1 h fun i m=>endB l <|
(bif (!decide (a=0)) then
 Z0 a
else
 callK (vr 34 0 [.ptr 0 0 0, .fn 48 [.ptr 0 0 0] []] ⟨[(0, .var [.t (.int .i64 c), .t (.int .i64 b), .t (.int .i64 f), .t (.list 5 g j), .buf 1, .buf 2]),(1, .arr true 2 d k),(2, .arr true 1 i m)],[]⟩) fun a h=>asT a fun b=>asL 1 b fun a c=>consB 0 h fun b d=>asVar b fun f=>consV f fun b g=>asT b fun f=>asI .i64 f fun b=>consV g fun b f=>asT b fun g=>asI .i64 g fun b=>consV f fun b g=>asT b fun f=>asI .i64 f fun b=>consV g fun b f=>asT b fun g=>asL 5 g fun b h=>consV f fun b g=>isBuf 1 b <| consV g fun b f=>isBuf 2 b <| endV f <| consB 1 d fun b f=>asArr 2 b fun d g=>
 consB 2 f fun b d=>asArr 1 b fun f g=>endB d <| some ((.tup [.t (.list 1 a c), .t (.int .i64 0)]),⟨[],[]⟩)))
theorem eq25g(A B C:Int)(D:Bool)(E:List T) :gE 25 0 18 Try.f25 [] [.t (.agg [.int .i64 A, .int .i64 B, .int .i64 C, .list 5 D E])] ⟨[],[]⟩=R25 A B C D E:=by kernel_rfl
theorem eq25(A B C:Int)(D:Bool)(E:List T) :vr 25 0 [.t (.agg [.int .i64 A, .int .i64 B, .int .i64 C, .list 5 D E])] ⟨[],[]⟩=R25 A B C D E:=
 Eq.trans (call_eq Try.prog hint (fn:=Try.f25) (nt:=18) (T:=[]) [] rfl _ _ rfl rfl rfl rfl rfl) (eq25g A B C D E)
noncomputable def R20(L20_4:YL20_4)(A:Bool)(B:List T)(C:Bool)(D:List T) :Option Res:=
(bif (!decide ((B.length:Int)=(D.length:Int))) then
 some ((.t (.bool false)),⟨[],[]⟩)
else
 L20_4 (A) (B) (C) (D) ((B.length:Int)) (0))
theorem eq20g(KL20_4:Env→St→Option Res)(A:Bool)(B:List T)(C:Bool)(D:List T) :gE 20 0 26 Try.f20 (Ta20 KL20_4) [.t (.list 1 A B), .t (.list 1 C D)] ⟨[],[]⟩=R20 (WL20_4 KL20_4) A B C D:=by kernel_rfl
theorem eq20(A:Bool)(B:List T)(C:Bool)(D:List T) :vr 20 0 [.t (.list 1 A B), .t (.list 1 C D)] ⟨[],[]⟩=R20 L20_4 A B C D:=
 Eq.trans (call_eq Try.prog hint (fn:=Try.f20) (nt:=26) (T:=(Ta20 VL20_4)) [PaL20_4] rfl _ _ rfl rfl rfl rfl rfl) (eq20g VL20_4 A B C D)
noncomputable def RL20_4(L20_4:YL20_4)(A:Bool)(B:List T)(b1z:Bool)(b1:List T)(C D:Int) :Option Res:=
(bif (decide (D<C)) then
 needC (decide (0≤D)) fun _=>getT B (D).toNat fun a=>asI .i64 a fun b=>needC (decide (0≤D)) fun _=>getT b1 (D).toNat fun a=>asI .i64 a fun c=>
(bif (!decide (b=c)) then
 some ((.t (.bool false)),⟨[],[]⟩)
else
 L20_4 (A) (B) (b1z) (b1) (C) ((IntKind.i64.wrap (D+1))))
else
 some ((.t (.bool true)),⟨[],[]⟩))
theorem L20_4g(KL20_4:Env→St→Option Res)(A:Bool)(B:List T)(b1z:Bool)(b1:List T)(C D:Int) :WL20_4 (fun e st=>gP 20 0 26 Try.f20 (Ta20 KL20_4) (.lp::PaL20_4) e st) A B b1z b1 C D=RL20_4 (WL20_4 KL20_4) A B b1z b1 C D:=by kernel_rfl
theorem L20_4_eq(A:Bool)(B:List T)(b1z:Bool)(b1:List T)(C D:Int) :L20_4 A B b1z b1 C D=RL20_4 L20_4 A B b1z b1 C D:=
 (congrArg (fun k=>WL20_4 k A B b1z b1 C D) (funext fun e=>funext fun st=>round_eq Try.prog hint (b:=(nav (List.reverse (.lp::PaL20_4)) (bodyOf Try.f20))) (fn:=Try.f20) (nt:=26) (T:=(Ta20 VL20_4)) [PaL20_4] rfl PaL20_4 e st rfl rfl rfl)).trans (L20_4g VL20_4 A B b1z b1 C D)
noncomputable def R41(A B C D E F G H:Int)(I:Bool)(J:List T) :Option Res:=
(bif (decide (A=7)) then
 some ((.t (.bool (decide (B<H)))),(Z2 F G H I J))
else
(bif (decide (A=9)) then
 some ((.t (.bool (decide (B<H)))),(Z2 F G H I J))
else
 some ((.t (.bool false)),(Z2 F G H I J))))
theorem eq41g(A B C D E F G H:Int)(I:Bool)(J:List T) :gE 41 0 19 Try.f41 [] [.t (.agg [.int .i64 A, .int .i64 B, .int .i64 C, .int .i64 D, .int .i64 E]), .ptr 0 0 0] ⟨[(0, .var [.t (.int .i64 F), .t (.int .i64 G), .t (.int .i64 H), .t (.list 5 I J)])],[]⟩=R41 A B C D E F G H I J:=by kernel_rfl
theorem eq41(A B C D E F G H:Int)(I:Bool)(J:List T) :vr 41 0 [.t (.agg [.int .i64 A, .int .i64 B, .int .i64 C, .int .i64 D, .int .i64 E]), .ptr 0 0 0] ⟨[(0, .var [.t (.int .i64 F), .t (.int .i64 G), .t (.int .i64 H), .t (.list 5 I J)])],[]⟩=R41 A B C D E F G H I J:=
 Eq.trans (call_eq Try.prog hint (fn:=Try.f41) (nt:=19) (T:=[]) [] rfl _ _ rfl rfl rfl rfl rfl) (eq41g A B C D E F G H I J)
noncomputable def R59v1(L59v1_2:YL59v1_2)(A:Bool)(B:List T)(C D E:Int)(F:Bool)(G:List T) :Option Res:=L59v1_2 (A) (B) ((B.length:Int)) (0) (C) (D) (E) (F) (G)
theorem eq59v1g(KL59v1_2:Env→St→Option Res)(A:Bool)(B:List T)(C D E:Int)(F:Bool)(G:List T) :gE 59 1 19 Try.f59 (Ta59v1 KL59v1_2) [.t (.list 5 A B), .fn 41 [] [.ptr 0 0 0]] ⟨[(0, .var [.t (.int .i64 C), .t (.int .i64 D), .t (.int .i64 E), .t (.list 5 F G)])],[]⟩=R59v1 (WL59v1_2 KL59v1_2) A B C D E F G:=by kernel_rfl
theorem eq59v1(A:Bool)(B:List T)(C D E:Int)(F:Bool)(G:List T) :vr 59 1 [.t (.list 5 A B), .fn 41 [] [.ptr 0 0 0]] ⟨[(0, .var [.t (.int .i64 C), .t (.int .i64 D), .t (.int .i64 E), .t (.list 5 F G)])],[]⟩=R59v1 L59v1_2 A B C D E F G:=
 Eq.trans (call_eq Try.prog hint (fn:=Try.f59) (nt:=19) (T:=(Ta59v1 VL59v1_2)) [PaL59v1_2] rfl _ _ rfl rfl rfl rfl rfl) (eq59v1g VL59v1_2 A B C D E F G)
noncomputable def RL59v1_2(L59v1_2:YL59v1_2)(s0z:Bool)(s0:List T)(A B C D E:Int)(F:Bool)(G:List T) :Option Res:=
(bif (decide (B<A)) then
 needC (decide (0≤B)) fun _=>getT s0 (B).toNat fun a=>asA a fun b=>consT b fun a c=>asI .i64 a fun b=>consT c fun a d=>asI .i64 a fun c=>consT d fun a f=>asI .i64 a fun d=>consT f fun a g=>asI .i64 a fun f=>consT g fun a h=>asI .i64 a fun g=>endT h <| callK (vr 41 0 [.t (.agg [.int .i64 b, .int .i64 c, .int .i64 d, .int .i64 f, .int .i64 g]), .ptr 0 0 0] (Z3 C D E F G)) fun a h=>asT a fun b=>asB b fun a=>consB 0 h fun b c=>asVar b fun d=>consV d fun b f=>asT b fun d=>asI .i64 d fun b=>consV f fun d g=>asT d fun f=>asI .i64 f fun d=>consV g fun f h=>
 asT f fun g=>asI .i64 g fun f=>consV h fun g i=>asT g fun h=>asL 5 h fun g j=>endV i <| endB c <|
(bif a then
 some ((.t (.int .i64 B)),(Z2 b d f g j))
else
 L59v1_2 (s0z) (s0) (A) ((IntKind.i64.wrap (B+1))) (b) (d) (f) (g) (j))
else
 some ((.t (.int .i64 (-1))),(Z2 C D E F G)))
theorem L59v1_2g(KL59v1_2:Env→St→Option Res)(s0z:Bool)(s0:List T)(A B C D E:Int)(F:Bool)(G:List T) :WL59v1_2 (fun e st=>gP 59 1 19 Try.f59 (Ta59v1 KL59v1_2) (.lp::PaL59v1_2) e st) s0z s0 A B C D E F G=RL59v1_2 (WL59v1_2 KL59v1_2) s0z s0 A B C D E F G:=by kernel_rfl
theorem L59v1_2_eq(s0z:Bool)(s0:List T)(A B C D E:Int)(F:Bool)(G:List T) :L59v1_2 s0z s0 A B C D E F G=RL59v1_2 L59v1_2 s0z s0 A B C D E F G:=
 (congrArg (fun k=>WL59v1_2 k s0z s0 A B C D E F G) (funext fun e=>funext fun st=>round_eq Try.prog hint (b:=(nav (List.reverse (.lp::PaL59v1_2)) (bodyOf Try.f59))) (fn:=Try.f59) (nt:=19) (T:=(Ta59v1 VL59v1_2)) [PaL59v1_2] rfl PaL59v1_2 e st rfl rfl rfl)).trans (L59v1_2g VL59v1_2 s0z s0 A B C D E F G)
noncomputable def R40v1(A:Bool)(B:List T)(C D E:Int)(F:Bool)(G:List T) :Option Res:=callK (vr 59 1 [.t (.list 5 A B), .fn 41 [] [.ptr 0 0 0]] (Z3 C D E F G)) fun a b=>asT a fun c=>asI .i64 c fun a=>consB 0 b fun c d=>asVar c fun b=>consV b fun c f=>asT c fun b=>asI .i64 b fun c=>consV f fun b g=>asT b fun f=>asI .i64 f fun b=>consV g fun f h=>asT f fun g=>asI .i64 g fun f=>consV h fun g i=>asT g fun h=>asL 5 h fun g j=>endV i <| endB d <| some ((.t (.bool (decide (0≤a)))),(Z2 c b f g j))
theorem eq40v1g(A:Bool)(B:List T)(C D E:Int)(F:Bool)(G:List T) :gE 40 1 9 Try.f40 [] [.t (.list 5 A B), .fn 41 [] [.ptr 0 0 0]] ⟨[(0, .var [.t (.int .i64 C), .t (.int .i64 D), .t (.int .i64 E), .t (.list 5 F G)])],[]⟩=R40v1 A B C D E F G:=by kernel_rfl
theorem eq40v1(A:Bool)(B:List T)(C D E:Int)(F:Bool)(G:List T) :vr 40 1 [.t (.list 5 A B), .fn 41 [] [.ptr 0 0 0]] ⟨[(0, .var [.t (.int .i64 C), .t (.int .i64 D), .t (.int .i64 E), .t (.list 5 F G)])],[]⟩=R40v1 A B C D E F G:=
 Eq.trans (call_eq Try.prog hint (fn:=Try.f40) (nt:=9) (T:=[]) [] rfl _ _ rfl rfl rfl rfl rfl) (eq40v1g A B C D E F G)
noncomputable def R14(A B C:Int)(D:Bool)(E:List T) :Option Res:=callK (vr 25 0 [.t (.agg [.int .i64 A, .int .i64 B, .int .i64 C, .list 5 D E])] ⟨[],[]⟩) fun a b=>asTup a fun c=>consV c fun a d=>asT a fun c=>asL 1 c fun a f=>consV d fun a c=>asT a fun d=>asI .i64 d fun a=>endV c <| endB b <|
(bif (!decide (a=0)) then
 some ((.t (.int .i64 a)),⟨[],[]⟩)
else
(bif (decide (0<(f.length:Int))) then
 some ((.t (.int .i64 7)),⟨[],[]⟩)
else
 callK (vr 40 1 [.t (.list 5 D E), .fn 41 [] [.ptr 0 0 0]] (Z3 A B C D E)) fun a b=>asT a fun c=>asB c fun a=>consB 0 b fun c d=>asVar c fun b=>consV b fun c f=>asT c fun b=>asI .i64 b fun c=>consV f fun b c=>asT b fun f=>asI .i64 f fun b=>consV c fun b f=>asT b fun c=>asI .i64 c fun b=>consV f fun b c=>asT b fun f=>asL 5 f fun b g=>endV c <| endB d <|
(bif a then
 some ((.t (.int .i64 3)),⟨[],[]⟩)
else
 some ((.t (.int .i64 0)),⟨[],[]⟩))))
theorem eq14g(A B C:Int)(D:Bool)(E:List T) :gE 14 0 23 Try.f14 [] [.t (.agg [.int .i64 A, .int .i64 B, .int .i64 C, .list 5 D E])] ⟨[],[]⟩=R14 A B C D E:=by kernel_rfl
theorem eq14(A B C:Int)(D:Bool)(E:List T) :vr 14 0 [.t (.agg [.int .i64 A, .int .i64 B, .int .i64 C, .list 5 D E])] ⟨[],[]⟩=R14 A B C D E:=
 Eq.trans (call_eq Try.prog hint (fn:=Try.f14) (nt:=23) (T:=[]) [] rfl _ _ rfl rfl rfl rfl rfl) (eq14g A B C D E)
noncomputable def R8 :Option Res:=callK (vr 32 0 [.t (.str ⟨#[99,111,100,101,32,50,32,48,32,48,10,115,101,116,32,114,48,32,49,10,97,100,100,32,114,48,32,114,48,32,114,49,10,104,97,108,116]⟩)] ⟨[],[]⟩) fun a b=>asTup a fun c=>consV c fun a d=>asT a fun c=>asA c fun a=>consT a fun c f=>asI .i64 c fun a=>consT f fun c g=>asI .i64 c fun f=>consT g fun c h=>asI .i64 c fun g=>consT h fun c i=>asL 5 c fun h j=>endT i <| consV d fun c i=>asT c fun d=>asI .i64 d fun c=>consV i fun c d=>asT c fun i=>asI .i64 i fun c=>endV d <|
 endB b <| callK (vr 25 0 [.t (.agg [.int .i64 a, .int .i64 f, .int .i64 g, .list 5 h j])] ⟨[],[]⟩) fun b d=>asTup b fun i=>consV i fun b k=>asT b fun i=>asL 1 i fun b l=>consV k fun i m=>asT i fun k=>asI .i64 k fun i=>endV m <| endB d <|
(bif (decide (c=0)) then
(bif (decide (i=0)) then
 callK (vr 20 0 [.t (.list 1 b l), .t (.list 1 true [.int .i64 1])] ⟨[],[]⟩) fun c d=>asT c fun b=>asB b fun c=>endB d <|
(bif c then
 callK (vr 14 0 [.t (.agg [.int .i64 a, .int .i64 f, .int .i64 g, .list 5 h j])] ⟨[],[]⟩) fun b c=>asT b fun a=>asI .i64 a fun b=>endB c <| some ((.t (.bool (decide (b=7)))),⟨[],[]⟩)
else
 some ((.t (.bool false)),⟨[],[]⟩))
else
 some ((.t (.bool false)),⟨[],[]⟩))
else
 some ((.t (.bool false)),⟨[],[]⟩))
theorem eq8g :gE 8 0 32 Try.f8 [] [] ⟨[],[]⟩=R8:=by kernel_rfl
theorem eq8 :vr 8 0 [] ⟨[],[]⟩=R8:=
 Eq.trans (call_eq Try.prog hint (fn:=Try.f8) (nt:=32) (T:=[]) [] rfl _ _ rfl rfl rfl rfl rfl) (eq8g)
noncomputable def R9(A B C:Int)(D:Bool)(E:List T) :Option Res:=some ((.t (.bool (decide ((E.length:Int)≤300)))),⟨[],[]⟩)
theorem eq9g(A B C:Int)(D:Bool)(E:List T) :gE 9 0 7 Try.f9 [] [.t (.agg [.int .i64 A, .int .i64 B, .int .i64 C, .list 5 D E])] ⟨[],[]⟩=R9 A B C D E:=by kernel_rfl
theorem eq9(A B C:Int)(D:Bool)(E:List T) :vr 9 0 [.t (.agg [.int .i64 A, .int .i64 B, .int .i64 C, .list 5 D E])] ⟨[],[]⟩=R9 A B C D E:=
 Eq.trans (call_eq Try.prog hint (fn:=Try.f9) (nt:=7) (T:=[]) [] rfl _ _ rfl rfl rfl rfl rfl) (eq9g A B C D E)
noncomputable def R13(A B C:Int)(D:Bool)(E:List T) :Option Res:=callK (vr 33 0 [.t (.agg [.int .i64 A, .int .i64 B, .int .i64 C, .list 5 D E])] ⟨[],[]⟩) fun a b=>
(bif fitsH (.tup [.nilp, .t (.one (.int .i64))]) [] a b then
 asTup a fun c=>consV c fun d f=>isNil d <| consV f fun c d=>asT c fun f=>asI .i64 f fun c=>endV d <| endB b <|
(bif (!decide (c=0)) then
 Z0 c
else
 none)
else
 asTup a fun c=>consV c fun a d=>isPtr 500 0 0 a <| consV d fun a c=>asT a fun d=>asI .i64 d fun a=>endV c <| consB 500 b fun c d=>asVar c fun b=>consV b fun c f=>asT c fun b=>asI .i64 b fun c=>consV f fun b c=>asT b fun f=>asI .i64 f fun b=>consV c fun b f=>asT b fun c=>asI .i64 c fun b=>consV f fun b c=>asT b fun f=>asL 5 f fun b g=>consV c fun b f=>isBuf 501 b <| consV f fun b c=>isBuf 502 b <| endV c <| consB 501 d fun b c=>asArr 2 b fun d f=>consB 502 c fun b d=>asArr 1 b fun c f=>endB d <|
(bif (!decide (a=0)) then
 Z0 a
else
 some ((.tup [.t (.list 1 c f), .t (.int .i64 0)]),⟨[],[]⟩)))
theorem eq13g(A B C:Int)(D:Bool)(E:List T) :gE 13 0 18 Try.f13 [] [.t (.agg [.int .i64 A, .int .i64 B, .int .i64 C, .list 5 D E])] ⟨[],[]⟩=R13 A B C D E:=by kernel_rfl
theorem eq13(A B C:Int)(D:Bool)(E:List T) :vr 13 0 [.t (.agg [.int .i64 A, .int .i64 B, .int .i64 C, .list 5 D E])] ⟨[],[]⟩=R13 A B C D E:=
 Eq.trans (call_eq Try.prog hint (fn:=Try.f13) (nt:=18) (T:=[]) [] rfl _ _ rfl rfl rfl rfl rfl) (eq13g A B C D E)
noncomputable def R63(A:Int) :Option Res:=
(bif (decide (A<0)) then
 some ((.tup [.t (.str ⟨#[]⟩), .t (.str ⟨#[]⟩)]),⟨[],[]⟩)
else
(bif (decide ((13:Int)≤A)) then
 some ((.tup [.t (.str ⟨#[]⟩), .t (.str ⟨#[]⟩)]),⟨[],[]⟩)
else
 needC (decide (0≤A) &&decide (A<(13:Int))) fun _=>getT ([.str ⟨#[104,97,108,116]⟩, .str ⟨#[115,101,116]⟩, .str ⟨#[109,111,118,101]⟩, .str ⟨#[97,100,100]⟩, .str ⟨#[115,117,98]⟩, .str ⟨#[109,117,108]⟩, .str ⟨#[108,111,97,100]⟩, .str ⟨#[115,116,111,114,101]⟩, .str ⟨#[108,101,110]⟩, .str ⟨#[112,117,115,104]⟩, .str ⟨#[106,117,109,112]⟩, .str ⟨#[108,101,115,115]⟩, .str ⟨#[115,97,109,101]⟩]) ((A).toNat) fun a=>asS a fun b=>needC (decide (0≤A) &&decide (A<(13:Int))) fun _=>getT ([.str ⟨#[]⟩, .str ⟨#[119,110]⟩, .str ⟨#[119,114]⟩, .str ⟨#[119,114,114]⟩, .str ⟨#[119,114,114]⟩, .str ⟨#[119,114,114]⟩, .str ⟨#[119,97,114]⟩, .str ⟨#[97,114,114]⟩, .str ⟨#[119,97]⟩, .str ⟨#[97,114]⟩, .str ⟨#[112]⟩, .str ⟨#[114,114,112]⟩, .str ⟨#[114,114,112]⟩]) ((A).toNat) fun a=>
 asS a fun c=>some ((.tup [.t (.str b), .t (.str c)]),⟨[],[]⟩)))
theorem eq63g(A:Int) :gE 63 0 24 Try.f63 [] [.t (.int .i64 A)] ⟨[],[]⟩=R63 A:=by kernel_rfl
theorem eq63(A:Int) :vr 63 0 [.t (.int .i64 A)] ⟨[],[]⟩=R63 A:=
 Eq.trans (call_eq Try.prog hint (fn:=Try.f63) (nt:=24) (T:=[]) [] rfl _ _ rfl rfl rfl rfl rfl) (eq63g A)
noncomputable def R64(A B C D E:Int) :Option Res:=some ((.t (.list 1 true [.int .i64 B, .int .i64 C, .int .i64 D])),⟨[],[]⟩)
theorem eq64g(A B C D E:Int) :gE 64 0 10 Try.f64 [] [.t (.agg [.int .i64 A, .int .i64 B, .int .i64 C, .int .i64 D, .int .i64 E])] ⟨[],[]⟩=R64 A B C D E:=by kernel_rfl
theorem eq64(A B C D E:Int) :vr 64 0 [.t (.agg [.int .i64 A, .int .i64 B, .int .i64 C, .int .i64 D, .int .i64 E])] ⟨[],[]⟩=R64 A B C D E:=
 Eq.trans (call_eq Try.prog hint (fn:=Try.f64) (nt:=10) (T:=[]) [] rfl _ _ rfl rfl rfl rfl rfl) (eq64g A B C D E)
noncomputable def R60(L60_7:YL60_7)(J60_12:YJ60_12)(J60_23:YJ60_23)(A B C D E F G H:Int)(I:Bool)(J:List T) :Option Res:=callK (vr 63 0 [.t (.int .i64 A)] ⟨[],[]⟩) fun a b=>asTup a fun c=>consV c fun a d=>asT a fun c=>asS c fun a=>consV d fun c f=>asT c fun d=>asS d fun c=>endV f <| endB b <|
(bif (decide ((a:ByteArray)=⟨#[]⟩)) then
 some ((.t (.bool false)),⟨[],[]⟩)
else
 callK (vr 64 0 [.t (.agg [.int .i64 A, .int .i64 B, .int .i64 C, .int .i64 D, .int .i64 E])] ⟨[],[]⟩) fun a b=>asT a fun d=>asL 1 d fun a f=>endB b <| L60_7 (c) (a) (f) (false) (0) (A) (B) (C) (D) (E) (F) (G) (H) (I) (J))
theorem eq60g(KL60_7 KJ60_12 KJ60_23:Env→St→Option Res)(A B C D E F G H:Int)(I:Bool)(J:List T) :gE 60 0 76 Try.f60 (Ta60 KL60_7 KJ60_12 KJ60_23) [.t (.agg [.int .i64 A, .int .i64 B, .int .i64 C, .int .i64 D, .int .i64 E]), .t (.agg [.int .i64 F, .int .i64 G, .int .i64 H, .list 5 I J])] ⟨[],[]⟩=R60 (WL60_7 KL60_7) (WJ60_12 KJ60_12) (WJ60_23 KJ60_23) A B C D E F G H I J:=by kernel_rfl
theorem eq60(A B C D E F G H:Int)(I:Bool)(J:List T) :vr 60 0 [.t (.agg [.int .i64 A, .int .i64 B, .int .i64 C, .int .i64 D, .int .i64 E]), .t (.agg [.int .i64 F, .int .i64 G, .int .i64 H, .list 5 I J])] ⟨[],[]⟩=R60 L60_7 J60_12 J60_23 A B C D E F G H I J:=
 Eq.trans (call_eq Try.prog hint (fn:=Try.f60) (nt:=76) (T:=(Ta60 VL60_7 VJ60_12 VJ60_23)) [PaL60_7,PaJ60_12,PaJ60_23] rfl _ _ rfl rfl rfl rfl rfl) (eq60g VL60_7 VJ60_12 VJ60_23 A B C D E F G H I J)
noncomputable def RL60_7(L60_7:YL60_7)(J60_12:YJ60_12)(J60_23:YJ60_23)(kinds6:ByteArray)(f7z:Bool)(f7:List T)(n8:Bool)(A B C D E F G H I:Int)(J:Bool)(K:List T) :Option Res:=
(bif (decide (A<3)) then
(bif (decide (A<(kinds6.size:Int))) then
 needC (decide (0≤A) &&decide (A<(kinds6.size:Int))) fun _=>J60_12 (kinds6) (f7z) (f7) (n8) (A) ((((kinds6:ByteArray)[(A).toNat]!).toNat:Int)) (A) (B) (C) (D) (E) (F) (G) (H) (I) (J) (K)
else
 J60_12 (kinds6) (f7z) (f7) (n8) (A) (32) (A) (B) (C) (D) (E) (F) (G) (H) (I) (J) (K))
else
(bif (!n8) then
 some ((.t (.bool (decide (F=0)))),⟨[],[]⟩)
else
(bif (decide ((-1000000000000000000)<F)) then
 some ((.t (.bool (decide (F<1000000000000000000)))),⟨[],[]⟩)
else
 some ((.t (.bool false)),⟨[],[]⟩))))
theorem L60_7g(KL60_7 KJ60_12 KJ60_23:Env→St→Option Res)(kinds6:ByteArray)(f7z:Bool)(f7:List T)(n8:Bool)(A B C D E F G H I:Int)(J:Bool)(K:List T) :WL60_7 (fun e st=>gP 60 0 76 Try.f60 (Ta60 KL60_7 KJ60_12 KJ60_23) (.lp::PaL60_7) e st) kinds6 f7z f7 n8 A B C D E F G H I J K=RL60_7 (WL60_7 KL60_7) (WJ60_12 KJ60_12) (WJ60_23 KJ60_23) kinds6 f7z f7 n8 A B C D E F G H I J K:=by kernel_rfl
theorem L60_7_eq(kinds6:ByteArray)(f7z:Bool)(f7:List T)(n8:Bool)(A B C D E F G H I:Int)(J:Bool)(K:List T) :L60_7 kinds6 f7z f7 n8 A B C D E F G H I J K=RL60_7 L60_7 J60_12 J60_23 kinds6 f7z f7 n8 A B C D E F G H I J K:=
 (congrArg (fun k=>WL60_7 k kinds6 f7z f7 n8 A B C D E F G H I J K) (funext fun e=>funext fun st=>round_eq Try.prog hint (b:=(nav (List.reverse (.lp::PaL60_7)) (bodyOf Try.f60))) (fn:=Try.f60) (nt:=76) (T:=(Ta60 VL60_7 VJ60_12 VJ60_23)) [PaL60_7,PaJ60_12,PaJ60_23] rfl PaL60_7 e st rfl rfl rfl)).trans (L60_7g VL60_7 VJ60_12 VJ60_23 kinds6 f7z f7 n8 A B C D E F G H I J K)
noncomputable def RJ60_12(L60_7:YL60_7)(J60_12:YJ60_12)(J60_23:YJ60_23)(kinds6:ByteArray)(f7z:Bool)(f7:List T)(n8:Bool)(i9 kind10 A B C D E F G H I:Int)(J:Bool)(K:List T) :Option Res:=
(bif (decide (kind10=119)) then
 J60_23 (kinds6) (f7z) (f7) (n8) (i9) (G) (A) (B) (C) (D) (E) (F) (G) (H) (I) (J) (K)
else
(bif (decide (kind10=114)) then
 J60_23 (kinds6) (f7z) (f7) (n8) (i9) (G) (A) (B) (C) (D) (E) (F) (G) (H) (I) (J) (K)
else
(bif (decide (kind10=97)) then
 J60_23 (kinds6) (f7z) (f7) (n8) (i9) (H) (A) (B) (C) (D) (E) (F) (G) (H) (I) (J) (K)
else
(bif (decide (kind10=112)) then
 J60_23 (kinds6) (f7z) (f7) (n8) (i9) ((K.length:Int)) (A) (B) (C) (D) (E) (F) (G) (H) (I) (J) (K)
else
(bif (decide (kind10=110)) then
 J60_23 (kinds6) (f7z) (f7) (true) (i9) (1) (A) (B) (C) (D) (E) (F) (G) (H) (I) (J) (K)
else
 J60_23 (kinds6) (f7z) (f7) (n8) (i9) (1) (A) (B) (C) (D) (E) (F) (G) (H) (I) (J) (K))))))
theorem J60_12g(KL60_7 KJ60_12 KJ60_23:Env→St→Option Res)(kinds6:ByteArray)(f7z:Bool)(f7:List T)(n8:Bool)(i9 kind10 A B C D E F G H I:Int)(J:Bool)(K:List T) :WJ60_12 (fun e st=>gP 60 0 76 Try.f60 (Ta60 KL60_7 KJ60_12 KJ60_23) PaJ60_12 e st) kinds6 f7z f7 n8 i9 kind10 A B C D E F G H I J K=RJ60_12 (WL60_7 KL60_7) (WJ60_12 KJ60_12) (WJ60_23 KJ60_23) kinds6 f7z f7 n8 i9 kind10 A B C D E F G H I J K:=by kernel_rfl
theorem J60_12_eq(kinds6:ByteArray)(f7z:Bool)(f7:List T)(n8:Bool)(i9 kind10 A B C D E F G H I:Int)(J:Bool)(K:List T) :J60_12 kinds6 f7z f7 n8 i9 kind10 A B C D E F G H I J K=RJ60_12 L60_7 J60_12 J60_23 kinds6 f7z f7 n8 i9 kind10 A B C D E F G H I J K:=
 (congrArg (fun k=>WJ60_12 k kinds6 f7z f7 n8 i9 kind10 A B C D E F G H I J K) (funext fun e=>funext fun st=>join_eq Try.prog hint (fn:=Try.f60) (nt:=76) (T:=(Ta60 VL60_7 VJ60_12 VJ60_23)) [PaL60_7,PaJ60_12,PaJ60_23] rfl PaJ60_12 e st rfl)).trans (J60_12g VL60_7 VJ60_12 VJ60_23 kinds6 f7z f7 n8 i9 kind10 A B C D E F G H I J K)
noncomputable def RJ60_23(L60_7:YL60_7)(J60_12:YJ60_12)(J60_23:YJ60_23)(kinds6:ByteArray)(f7z:Bool)(f7:List T)(n8:Bool)(i9 limit11 A B C D E F G H I:Int)(J:Bool)(K:List T) :Option Res:=needC (decide (0≤i9)) fun _=>getT f7 (i9).toNat fun a=>asI .i64 a fun b=>
(bif (decide (b<0)) then
 some ((.t (.bool false)),⟨[],[]⟩)
else
 needC (decide (0≤i9)) fun _=>getT f7 (i9).toNat fun a=>asI .i64 a fun b=>
(bif (decide (limit11≤b)) then
 some ((.t (.bool false)),⟨[],[]⟩)
else
 L60_7 (kinds6) (f7z) (f7) (n8) ((IntKind.i64.wrap (A+1))) (B) (C) (D) (E) (F) (G) (H) (I) (J) (K)))
theorem J60_23g(KL60_7 KJ60_12 KJ60_23:Env→St→Option Res)(kinds6:ByteArray)(f7z:Bool)(f7:List T)(n8:Bool)(i9 limit11 A B C D E F G H I:Int)(J:Bool)(K:List T) :WJ60_23 (fun e st=>gP 60 0 76 Try.f60 (Ta60 KL60_7 KJ60_12 KJ60_23) PaJ60_23 e st) kinds6 f7z f7 n8 i9 limit11 A B C D E F G H I J K=RJ60_23 (WL60_7 KL60_7) (WJ60_12 KJ60_12) (WJ60_23 KJ60_23) kinds6 f7z f7 n8 i9 limit11 A B C D E F G H I J K:=by kernel_rfl
theorem J60_23_eq(kinds6:ByteArray)(f7z:Bool)(f7:List T)(n8:Bool)(i9 limit11 A B C D E F G H I:Int)(J:Bool)(K:List T) :J60_23 kinds6 f7z f7 n8 i9 limit11 A B C D E F G H I J K=RJ60_23 L60_7 J60_12 J60_23 kinds6 f7z f7 n8 i9 limit11 A B C D E F G H I J K:=
 (congrArg (fun k=>WJ60_23 k kinds6 f7z f7 n8 i9 limit11 A B C D E F G H I J K) (funext fun e=>funext fun st=>join_eq Try.prog hint (fn:=Try.f60) (nt:=76) (T:=(Ta60 VL60_7 VJ60_12 VJ60_23)) [PaL60_7,PaJ60_12,PaJ60_23] rfl PaJ60_23 e st rfl)).trans (J60_23g VL60_7 VJ60_12 VJ60_23 kinds6 f7z f7 n8 i9 limit11 A B C D E F G H I J K)
noncomputable def R46(L46_3:YL46_3)(A B C:Int)(D:Bool)(E:List T) :Option Res:=
(bif (decide (0≤A)) then
(bif (decide (A≤128)) then
(bif (decide (0≤B)) then
(bif (decide (B≤128)) then
(bif (decide (0≤C)) then
(bif (decide (C≤B)) then
(bif (decide (1≤(E.length:Int))) then
 L46_3 ((decide ((E.length:Int)≤4096))) (D) (E) ((E.length:Int)) (0) (A) (B) (C) (D) (E)
else
 L46_3 (false) (D) (E) ((E.length:Int)) (0) (A) (B) (C) (D) (E))
else
 L46_3 (false) (D) (E) ((E.length:Int)) (0) (A) (B) (C) (D) (E))
else
 L46_3 (false) (D) (E) ((E.length:Int)) (0) (A) (B) (C) (D) (E))
else
 L46_3 (false) (D) (E) ((E.length:Int)) (0) (A) (B) (C) (D) (E))
else
 L46_3 (false) (D) (E) ((E.length:Int)) (0) (A) (B) (C) (D) (E))
else
 L46_3 (false) (D) (E) ((E.length:Int)) (0) (A) (B) (C) (D) (E))
else
 L46_3 (false) (D) (E) ((E.length:Int)) (0) (A) (B) (C) (D) (E))
theorem eq46g(KL46_3:Env→St→Option Res)(A B C:Int)(D:Bool)(E:List T) :gE 46 0 81 Try.f46 (Ta46 KL46_3) [.t (.agg [.int .i64 A, .int .i64 B, .int .i64 C, .list 5 D E])] ⟨[],[]⟩=R46 (WL46_3 KL46_3) A B C D E:=by kernel_rfl
theorem eq46(A B C:Int)(D:Bool)(E:List T) :vr 46 0 [.t (.agg [.int .i64 A, .int .i64 B, .int .i64 C, .list 5 D E])] ⟨[],[]⟩=R46 L46_3 A B C D E:=
 Eq.trans (call_eq Try.prog hint (fn:=Try.f46) (nt:=81) (T:=(Ta46 VL46_3)) [PaL46_3] rfl _ _ rfl rfl rfl rfl rfl) (eq46g VL46_3 A B C D E)
noncomputable def RL46_3(L46_3:YL46_3)(ok3 A:Bool)(B:List T)(C D E F G:Int)(H:Bool)(I:List T) :Option Res:=
(bif (decide (D<C)) then
 needC (decide (0≤D)) fun _=>getT B (D).toNat fun a=>asA a fun b=>consT b fun a c=>asI .i64 a fun b=>consT c fun a d=>asI .i64 a fun c=>consT d fun a f=>asI .i64 a fun d=>consT f fun a g=>asI .i64 a fun f=>consT g fun a h=>asI .i64 a fun g=>endT h <|
(bif ok3 then
 callK (vr 60 0 [.t (.agg [.int .i64 b, .int .i64 c, .int .i64 d, .int .i64 f, .int .i64 g]), .t (.agg [.int .i64 E, .int .i64 F, .int .i64 G, .list 5 H I])] ⟨[],[]⟩) fun a h=>asT a fun b=>asB b fun a=>endB h <| L46_3 (a) (A) (B) (C) ((IntKind.i64.wrap (D+1))) (E) (F) (G) (H) (I)
else
 L46_3 (false) (A) (B) (C) ((IntKind.i64.wrap (D+1))) (E) (F) (G) (H) (I))
else
(bif (!ok3) then
 some ((.t (.int .i64 1)),⟨[],[]⟩)
else
 needC (decide (0≤(IntKind.i64.wrap ((I.length:Int) - 1)))) fun _=>getT I ((IntKind.i64.wrap ((I.length:Int) - 1))).toNat fun a=>asA a fun b=>consT b fun a c=>asI .i64 a fun b=>consT c fun a d=>asI .i64 a fun c=>consT d fun a c=>asI .i64 a fun d=>consT c fun a d=>asI .i64 a fun c=>consT d fun a c=>asI .i64 a fun d=>endT c <|
(bif (!decide (b=0)) then
(bif (!decide (b=10)) then
 some ((.t (.int .i64 1)),⟨[],[]⟩)
else
 some ((.t (.int .i64 0)),⟨[],[]⟩))
else
 some ((.t (.int .i64 0)),⟨[],[]⟩))))
theorem L46_3g(KL46_3:Env→St→Option Res)(ok3 A:Bool)(B:List T)(C D E F G:Int)(H:Bool)(I:List T) :WL46_3 (fun e st=>gP 46 0 81 Try.f46 (Ta46 KL46_3) (.lp::PaL46_3) e st) ok3 A B C D E F G H I=RL46_3 (WL46_3 KL46_3) ok3 A B C D E F G H I:=by kernel_rfl
theorem L46_3_eq(ok3 A:Bool)(B:List T)(C D E F G:Int)(H:Bool)(I:List T) :L46_3 ok3 A B C D E F G H I=RL46_3 L46_3 ok3 A B C D E F G H I:=
 (congrArg (fun k=>WL46_3 k ok3 A B C D E F G H I) (funext fun e=>funext fun st=>round_eq Try.prog hint (b:=(nav (List.reverse (.lp::PaL46_3)) (bodyOf Try.f46))) (fn:=Try.f46) (nt:=81) (T:=(Ta46 VL46_3)) [PaL46_3] rfl PaL46_3 e st rfl rfl rfl)).trans (L46_3g VL46_3 ok3 A B C D E F G H I)
noncomputable def R61(A B C D E:Int) :Option Res:=callK (vr 63 0 [.t (.int .i64 A)] ⟨[],[]⟩) fun a b=>asTup a fun c=>consV c fun a d=>asT a fun c=>asS c fun a=>consV d fun a c=>asT a fun d=>asS d fun a=>endV c <| endB b <|
(bif (!decide ((a:ByteArray)=⟨#[]⟩)) then
 needC (decide (0≤0) &&decide ((0:Int)<(a.size:Int))) fun _=>
(bif (decide ((((a:ByteArray)[((0:Int)).toNat]!).toNat:Int)=119)) then
 some ((.tup [.t (.int .i64 B), .t (.bool true)]),⟨[],[]⟩)
else
 some ((.tup [.t (.int .i64 0), .t (.bool false)]),⟨[],[]⟩))
else
 some ((.tup [.t (.int .i64 0), .t (.bool false)]),⟨[],[]⟩))
theorem eq61g(A B C D E:Int) :gE 61 0 21 Try.f61 [] [.t (.agg [.int .i64 A, .int .i64 B, .int .i64 C, .int .i64 D, .int .i64 E])] ⟨[],[]⟩=R61 A B C D E:=by kernel_rfl
theorem eq61(A B C D E:Int) :vr 61 0 [.t (.agg [.int .i64 A, .int .i64 B, .int .i64 C, .int .i64 D, .int .i64 E])] ⟨[],[]⟩=R61 A B C D E:=
 Eq.trans (call_eq Try.prog hint (fn:=Try.f61) (nt:=21) (T:=[]) [] rfl _ _ rfl rfl rfl rfl rfl) (eq61g A B C D E)
noncomputable def R51(A B C D E F:Int) :Option Res:=callK (vr 63 0 [.t (.int .i64 A)] ⟨[],[]⟩) fun a b=>asTup a fun c=>consV c fun a d=>asT a fun c=>asS c fun a=>consV d fun c f=>asT c fun d=>asS d fun c=>endV f <| endB b <|
(bif (decide ((a:ByteArray)=⟨#[]⟩)) then
 some ((.t (.list 1 false [])),⟨[],[]⟩)
else
(bif (decide ((a:ByteArray)=⟨#[104,97,108,116]⟩)) then
 some ((.t (.list 1 false [])),⟨[],[]⟩)
else
(bif (decide ((a:ByteArray)=⟨#[106,117,109,112]⟩)) then
 some ((.t (.list 1 true [.int .i64 B])),⟨[],[]⟩)
else
(bif (decide ((a:ByteArray)=⟨#[108,101,115,115]⟩)) then
 some ((.t (.list 1 true [.int .i64 (IntKind.i64.wrap (F+1)), .int .i64 D])),⟨[],[]⟩)
else
(bif (decide ((a:ByteArray)=⟨#[115,97,109,101]⟩)) then
 some ((.t (.list 1 true [.int .i64 (IntKind.i64.wrap (F+1)), .int .i64 D])),⟨[],[]⟩)
else
 some ((.t (.list 1 true [.int .i64 (IntKind.i64.wrap (F+1))])),⟨[],[]⟩))))))
theorem eq51g(A B C D E F:Int) :gE 51 0 33 Try.f51 [] [.t (.agg [.int .i64 A, .int .i64 B, .int .i64 C, .int .i64 D, .int .i64 E]), .t (.int .i64 F)] ⟨[],[]⟩=R51 A B C D E F:=by kernel_rfl
theorem eq51(A B C D E F:Int) :vr 51 0 [.t (.agg [.int .i64 A, .int .i64 B, .int .i64 C, .int .i64 D, .int .i64 E]), .t (.int .i64 F)] ⟨[],[]⟩=R51 A B C D E F:=
 Eq.trans (call_eq Try.prog hint (fn:=Try.f51) (nt:=33) (T:=[]) [] rfl _ _ rfl rfl rfl rfl rfl) (eq51g A B C D E F)
noncomputable def R47(L47_4:YL47_4)(L47_6:YL47_6)(L47_11:YL47_11)(A B C:Int)(D:Bool)(E:List T)(F:Int) :Option Res:=needC (decide (0≤(E.length:Int)) &&decide ((E.length:Int)≤(E.length:Int)) &&decide ((E.length:Int)*(1+1)≤70368744177664)) fun _=>needC (decide (0≤0) &&decide ((0:Int)<(((List.replicate ((E.length:Int)).toNat ((.bool false):T))).length:Int))) fun _=>setT ((List.replicate ((E.length:Int)).toNat ((.bool false):T))) (((0:Int)).toNat) (.bool true) fun a=>L47_4 (F) ((E.length:Int)) (0) (A) (B) (C) (D) (E) (true) (a)
theorem eq47g(KL47_4 KL47_6 KL47_11:Env→St→Option Res)(A B C:Int)(D:Bool)(E:List T)(F:Int) :gE 47 0 64 Try.f47 (Ta47 KL47_4 KL47_6 KL47_11) [.t (.agg [.int .i64 A, .int .i64 B, .int .i64 C, .list 5 D E]), .t (.int .i64 F)] ⟨[],[]⟩=R47 (WL47_4 KL47_4) (WL47_6 KL47_6) (WL47_11 KL47_11) A B C D E F:=by kernel_rfl
theorem eq47(A B C:Int)(D:Bool)(E:List T)(F:Int) :vr 47 0 [.t (.agg [.int .i64 A, .int .i64 B, .int .i64 C, .list 5 D E]), .t (.int .i64 F)] ⟨[],[]⟩=R47 L47_4 L47_6 L47_11 A B C D E F:=
 Eq.trans (call_eq Try.prog hint (fn:=Try.f47) (nt:=64) (T:=(Ta47 VL47_4 VL47_6 VL47_11)) [PaL47_4,PaL47_6,PaL47_11] rfl _ _ rfl rfl rfl rfl rfl) (eq47g VL47_4 VL47_6 VL47_11 A B C D E F)
noncomputable def RL47_4(L47_4:YL47_4)(L47_6:YL47_6)(L47_11:YL47_11)(but1 A B C D E:Int)(F:Bool)(G:List T)(H:Bool)(I:List T) :Option Res:=
(bif (decide (B<A)) then
 L47_6 (but1) (A) (B) (F) (G) ((G.length:Int)) (0) (C) (D) (E) (F) (G) (H) (I)
else
 some ((.t (.list 1 H I)),⟨[],[]⟩))
theorem L47_4g(KL47_4 KL47_6 KL47_11:Env→St→Option Res)(but1 A B C D E:Int)(F:Bool)(G:List T)(H:Bool)(I:List T) :WL47_4 (fun e st=>gP 47 0 64 Try.f47 (Ta47 KL47_4 KL47_6 KL47_11) (.lp::PaL47_4) e st) but1 A B C D E F G H I=RL47_4 (WL47_4 KL47_4) (WL47_6 KL47_6) (WL47_11 KL47_11) but1 A B C D E F G H I:=by kernel_rfl
theorem L47_4_eq(but1 A B C D E:Int)(F:Bool)(G:List T)(H:Bool)(I:List T) :L47_4 but1 A B C D E F G H I=RL47_4 L47_4 L47_6 L47_11 but1 A B C D E F G H I:=
 (congrArg (fun k=>WL47_4 k but1 A B C D E F G H I) (funext fun e=>funext fun st=>round_eq Try.prog hint (b:=(nav (List.reverse (.lp::PaL47_4)) (bodyOf Try.f47))) (fn:=Try.f47) (nt:=64) (T:=(Ta47 VL47_4 VL47_6 VL47_11)) [PaL47_4,PaL47_6,PaL47_11] rfl PaL47_4 e st rfl rfl rfl)).trans (L47_4g VL47_4 VL47_6 VL47_11 but1 A B C D E F G H I)
noncomputable def RL47_6(L47_4:YL47_4)(L47_6:YL47_6)(L47_11:YL47_11)(but1 A B:Int)(C:Bool)(D:List T)(E F G H I:Int)(J:Bool)(K:List T)(L:Bool)(M:List T) :Option Res:=
(bif (decide (F<E)) then
 needC (decide (0≤F)) fun _=>getT D (F).toNat fun a=>asA a fun b=>consT b fun a c=>asI .i64 a fun b=>consT c fun a d=>asI .i64 a fun c=>consT d fun a f=>asI .i64 a fun d=>consT f fun a g=>asI .i64 a fun f=>consT g fun a h=>asI .i64 a fun g=>endT h <| callK (vr 61 0 [.t (.agg [.int .i64 b, .int .i64 c, .int .i64 d, .int .i64 f, .int .i64 g])] ⟨[],[]⟩) fun a h=>asTup a fun i=>consV i fun a j=>asT a fun i=>asI .i64 i fun a=>consV j fun i k=>asT i fun j=>asB j fun i=>endV k <| endB h <| needC (decide (0≤F) &&decide (F<(M.length:Int))) fun _=>getT M ((F).toNat) fun h=>
 asB h fun j=>
(bif (!j) then
 L47_6 (but1) (A) (B) (C) (D) (E) ((IntKind.i64.wrap (F+1))) (G) (H) (I) (J) (K) (L) (M)
else
(bif i then
(bif (decide (a=but1)) then
 L47_6 (but1) (A) (B) (C) (D) (E) ((IntKind.i64.wrap (F+1))) (G) (H) (I) (J) (K) (L) (M)
else
 callK (vr 51 0 [.t (.agg [.int .i64 b, .int .i64 c, .int .i64 d, .int .i64 f, .int .i64 g]), .t (.int .i64 F)] ⟨[],[]⟩) fun a h=>asT a fun i=>asL 1 i fun a j=>endB h <| L47_11 (but1) (A) (B) (C) (D) (E) (F) (a) (j) ((j.length:Int)) (0) (G) (H) (I) (J) (K) (L) (M))
else
 callK (vr 51 0 [.t (.agg [.int .i64 b, .int .i64 c, .int .i64 d, .int .i64 f, .int .i64 g]), .t (.int .i64 F)] ⟨[],[]⟩) fun a h=>asT a fun b=>asL 1 b fun a c=>endB h <| L47_11 (but1) (A) (B) (C) (D) (E) (F) (a) (c) ((c.length:Int)) (0) (G) (H) (I) (J) (K) (L) (M)))
else
 L47_4 (but1) (A) ((IntKind.i64.wrap (B+1))) (G) (H) (I) (J) (K) (L) (M))
theorem L47_6g(KL47_4 KL47_6 KL47_11:Env→St→Option Res)(but1 A B:Int)(C:Bool)(D:List T)(E F G H I:Int)(J:Bool)(K:List T)(L:Bool)(M:List T) :WL47_6 (fun e st=>gP 47 0 64 Try.f47 (Ta47 KL47_4 KL47_6 KL47_11) (.lp::PaL47_6) e st) but1 A B C D E F G H I J K L M=RL47_6 (WL47_4 KL47_4) (WL47_6 KL47_6) (WL47_11 KL47_11) but1 A B C D E F G H I J K L M:=by kernel_rfl
theorem L47_6_eq(but1 A B:Int)(C:Bool)(D:List T)(E F G H I:Int)(J:Bool)(K:List T)(L:Bool)(M:List T) :L47_6 but1 A B C D E F G H I J K L M=RL47_6 L47_4 L47_6 L47_11 but1 A B C D E F G H I J K L M:=
 (congrArg (fun k=>WL47_6 k but1 A B C D E F G H I J K L M) (funext fun e=>funext fun st=>round_eq Try.prog hint (b:=(nav (List.reverse (.lp::PaL47_6)) (bodyOf Try.f47))) (fn:=Try.f47) (nt:=64) (T:=(Ta47 VL47_4 VL47_6 VL47_11)) [PaL47_4,PaL47_6,PaL47_11] rfl PaL47_6 e st rfl rfl rfl)).trans (L47_6g VL47_4 VL47_6 VL47_11 but1 A B C D E F G H I J K L M)
noncomputable def RL47_11(L47_4:YL47_4)(L47_6:YL47_6)(L47_11:YL47_11)(but1 A B:Int)(C:Bool)(D:List T)(E F:Int)(G:Bool)(H:List T)(I J K L M:Int)(N:Bool)(O:List T)(P:Bool)(Q:List T) :Option Res:=
(bif (decide (J<I)) then
 needC (decide (0≤J)) fun _=>getT H (J).toNat fun a=>asI .i64 a fun b=>needC (decide (0≤b) &&decide (b<(Q.length:Int))) fun _=>needC (P &&true) fun _=>setT Q ((b).toNat) (.bool true) fun a=>L47_11 (but1) (A) (B) (C) (D) (E) (F) (G) (H) (I) ((IntKind.i64.wrap (J+1))) (K) (L) (M) (N) (O) (P) (a)
else
 L47_6 (but1) (A) (B) (C) (D) (E) ((IntKind.i64.wrap (F+1))) (K) (L) (M) (N) (O) (P) (Q))
theorem L47_11g(KL47_4 KL47_6 KL47_11:Env→St→Option Res)(but1 A B:Int)(C:Bool)(D:List T)(E F:Int)(G:Bool)(H:List T)(I J K L M:Int)(N:Bool)(O:List T)(P:Bool)(Q:List T) :WL47_11 (fun e st=>gP 47 0 64 Try.f47 (Ta47 KL47_4 KL47_6 KL47_11) (.lp::PaL47_11) e st) but1 A B C D E F G H I J K L M N O P Q=RL47_11 (WL47_4 KL47_4) (WL47_6 KL47_6) (WL47_11 KL47_11) but1 A B C D E F G H I J K L M N O P Q:=by kernel_rfl
theorem L47_11_eq(but1 A B:Int)(C:Bool)(D:List T)(E F:Int)(G:Bool)(H:List T)(I J K L M:Int)(N:Bool)(O:List T)(P:Bool)(Q:List T) :L47_11 but1 A B C D E F G H I J K L M N O P Q=RL47_11 L47_4 L47_6 L47_11 but1 A B C D E F G H I J K L M N O P Q:=
 (congrArg (fun k=>WL47_11 k but1 A B C D E F G H I J K L M N O P Q) (funext fun e=>funext fun st=>round_eq Try.prog hint (b:=(nav (List.reverse (.lp::PaL47_11)) (bodyOf Try.f47))) (fn:=Try.f47) (nt:=64) (T:=(Ta47 VL47_4 VL47_6 VL47_11)) [PaL47_4,PaL47_6,PaL47_11] rfl PaL47_11 e st rfl rfl rfl)).trans (L47_11g VL47_4 VL47_6 VL47_11 but1 A B C D E F G H I J K L M N O P Q)
noncomputable def R23(A B C:Int)(D:Bool)(E:List T) :Option Res:=callK (vr 46 0 [.t (.agg [.int .i64 A, .int .i64 B, .int .i64 C, .list 5 D E])] ⟨[],[]⟩) fun a b=>asT a fun c=>asI .i64 c fun a=>endB b <|
(bif (!decide (a=0)) then
 Z0 a
else
 callK (vr 47 0 [.t (.agg [.int .i64 A, .int .i64 B, .int .i64 C, .list 5 D E]), .t (.int .i64 (-1))] ⟨[],[]⟩) fun a b=>asT a fun c=>asL 1 c fun a d=>endB b <| some ((.tup [.t (.list 1 a d), .t (.int .i64 0)]),⟨[],[]⟩))
theorem eq23g(A B C:Int)(D:Bool)(E:List T) :gE 23 0 12 Try.f23 [] [.t (.agg [.int .i64 A, .int .i64 B, .int .i64 C, .list 5 D E])] ⟨[],[]⟩=R23 A B C D E:=by kernel_rfl
theorem eq23(A B C:Int)(D:Bool)(E:List T) :vr 23 0 [.t (.agg [.int .i64 A, .int .i64 B, .int .i64 C, .list 5 D E])] ⟨[],[]⟩=R23 A B C D E:=
 Eq.trans (call_eq Try.prog hint (fn:=Try.f23) (nt:=12) (T:=[]) [] rfl _ _ rfl rfl rfl rfl rfl) (eq23g A B C D E)
noncomputable def R12(L12_6:YL12_6)(L12_9:YL12_9)(A B C:Int)(D:Bool)(E:List T) :Option Res:=callK (vr 33 0 [.t (.agg [.int .i64 A, .int .i64 B, .int .i64 C, .list 5 D E])] ⟨[],[]⟩) fun a b=>
(bif fitsH (.tup [.nilp, .t (.one (.int .i64))]) [] a b then
 asTup a fun c=>consV c fun d f=>isNil d <| consV f fun c d=>asT c fun f=>asI .i64 f fun c=>endV d <| endB b <|
(bif (!decide (c=0)) then
 Z0 c
else
 needC (decide (0≤(E.length:Int)) &&decide ((E.length:Int)≤(E.length:Int)) &&decide ((E.length:Int)*(24+1)≤70368744177664)) fun _=>none)
else
 asTup a fun c=>consV c fun a d=>isPtr 500 0 0 a <| consV d fun a c=>asT a fun d=>asI .i64 d fun a=>endV c <| consB 500 b fun c d=>asVar c fun b=>consV b fun c f=>asT c fun b=>asI .i64 b fun c=>consV f fun b g=>asT b fun f=>asI .i64 f fun b=>consV g fun f h=>asT f fun g=>asI .i64 g fun f=>consV h fun g i=>asT g fun h=>asL 5 h fun g j=>consV i fun h k=>isBuf 501 h <| consV k fun h i=>isBuf 502 h <| endV i <| consB 501 d fun h i=>asArr 2 h fun d k=>consB 502 i fun h l=>asArr 1 h fun i m=>endB l <|
(bif (!decide (a=0)) then
 Z0 a
else
 needC (decide (0≤(E.length:Int)) &&decide ((E.length:Int)≤(E.length:Int)) &&decide ((E.length:Int)*(24+1)≤70368744177664)) fun _=>L12_6 ((k.length:Int)) (0) (A) (B) (C) (D) (E) (c) (b) (f) (g) (j) (d) (k) (i) (m) (((List.replicate ((E.length:Int)).toNat ((.list 1 false []):T)).map rowOf))))
theorem eq12g(KL12_6 KL12_9:Env→St→Option Res)(A B C:Int)(D:Bool)(E:List T) :gE 12 0 62 Try.f12 (Ta12 KL12_6 KL12_9) [.t (.agg [.int .i64 A, .int .i64 B, .int .i64 C, .list 5 D E])] ⟨[],[]⟩=R12 (WL12_6 KL12_6) (WL12_9 KL12_9) A B C D E:=by kernel_rfl
theorem eq12(A B C:Int)(D:Bool)(E:List T) :vr 12 0 [.t (.agg [.int .i64 A, .int .i64 B, .int .i64 C, .list 5 D E])] ⟨[],[]⟩=R12 L12_6 L12_9 A B C D E:=
 Eq.trans (call_eq Try.prog hint (fn:=Try.f12) (nt:=62) (T:=(Ta12 VL12_6 VL12_9)) [PaL12_6,PaL12_9] rfl _ _ rfl rfl rfl rfl rfl) (eq12g VL12_6 VL12_9 A B C D E)
noncomputable def RL12_6(L12_6:YL12_6)(L12_9:YL12_9)(A B C D E:Int)(F:Bool)(G:List T)(H I J:Int)(K:Bool)(L:List T)(M:Bool)(N:List T)(O:Bool)(P:List T)(Q:List RowV) :Option Res:=
(bif (decide (B<A)) then
 needC (decide (0≤B) &&decide (B<(N.length:Int))) fun _=>getT N ((B).toNat) fun a=>asA a fun b=>consT b fun a c=>asI .u64 a fun b=>consT c fun a d=>asI .u64 a fun c=>endT d <| L12_9 (B) (0) (A) (B) (C) (D) (E) (F) (G) (H) (I) (J) (K) (L) (M) (N) (O) (P) (Q) ([.int .u64 b, .int .u64 c])
else
 treesC 1 Q fun ts_9=>some ((.tup [.t (.list 1 true ts_9), .t (.int .i64 0)]),⟨[],[]⟩))
theorem L12_6g(KL12_6 KL12_9:Env→St→Option Res)(A B C D E:Int)(F:Bool)(G:List T)(H I J:Int)(K:Bool)(L:List T)(M:Bool)(N:List T)(O:Bool)(P:List T)(Q:List RowV) :WL12_6 (fun e st=>gP 12 0 62 Try.f12 (Ta12 KL12_6 KL12_9) (.lp::PaL12_6) e st) A B C D E F G H I J K L M N O P Q=RL12_6 (WL12_6 KL12_6) (WL12_9 KL12_9) A B C D E F G H I J K L M N O P Q:=by kernel_rfl
theorem L12_6_eq(A B C D E:Int)(F:Bool)(G:List T)(H I J:Int)(K:Bool)(L:List T)(M:Bool)(N:List T)(O:Bool)(P:List T)(Q:List RowV) :L12_6 A B C D E F G H I J K L M N O P Q=RL12_6 L12_6 L12_9 A B C D E F G H I J K L M N O P Q:=
 (congrArg (fun k=>WL12_6 k A B C D E F G H I J K L M N O P Q) (funext fun e=>funext fun st=>round_eq Try.prog hint (b:=(nav (List.reverse (.lp::PaL12_6)) (bodyOf Try.f12))) (fn:=Try.f12) (nt:=62) (T:=(Ta12 VL12_6 VL12_9)) [PaL12_6,PaL12_9] rfl PaL12_6 e st rfl rfl rfl)).trans (L12_6g VL12_6 VL12_9 A B C D E F G H I J K L M N O P Q)
noncomputable def RL12_9(L12_6:YL12_6)(L12_9:YL12_9)(i7 n9 A B C D E:Int)(F:Bool)(G:List T)(H I J:Int)(K:Bool)(L:List T)(M:Bool)(N:List T)(O:Bool)(P:List T)(Q:List RowV)(R:List T) :Option Res:=
(bif (decide (n9<C)) then
 needC (decide (0≤i7) &&decide (i7<(P.length:Int))) fun _=>getT P ((i7).toNat) fun a=>asB a fun b=>
(bif b then
 consT (((R.drop 0).take 2)) fun a b=>asI .u64 a fun c=>consT b fun a d=>asI .u64 a fun b=>endT d <| callK (vr 39 0 [.t (.agg [.int .u64 c, .int .u64 b]), .t (.int .i64 n9)] ⟨[],[]⟩) fun a d=>asT a fun b=>asB b fun a=>endB d <|
(bif a then
 needC (decide (0≤i7) &&decide (i7<(Q.length:Int))) fun _=>rowC Q ((i7).toNat) fun a b=>needC (decide ((b.length+1)*(8+1)≤70368744177664) &&decide (8≤1048576)) fun _=>needC (decide (0≤i7) &&decide (i7<(((Q.set ((i7).toNat) .gone)).length:Int))) fun _=>needC (decide ((i7).toNat<((Q.set ((i7).toNat) .gone)).length)) fun _=>L12_9 (i7) ((IntKind.i64.wrap (n9+1))) (A) (B) (C) (D) (E) (F) (G) (H) (I) (J) (K) (L) (M) (N) (O) (P) ((((Q.set ((i7).toNat) .gone)).set ((i7).toNat) (.own ((a || true)) ((b++([.int .i64 n9]:List T)))))) (R)
else
 L12_9 (i7) ((IntKind.i64.wrap (n9+1))) (A) (B) (C) (D) (E) (F) (G) (H) (I) (J) (K) (L) (M) (N) (O) (P) (Q) (R))
else
 L12_6 (A) ((IntKind.i64.wrap (B+1))) (C) (D) (E) (F) (G) (H) (I) (J) (K) (L) (M) (N) (O) (P) (Q))
else
 L12_6 (A) ((IntKind.i64.wrap (B+1))) (C) (D) (E) (F) (G) (H) (I) (J) (K) (L) (M) (N) (O) (P) (Q))
theorem L12_9g(KL12_6 KL12_9:Env→St→Option Res)(i7 n9 A B C D E:Int)(F:Bool)(G:List T)(H I J:Int)(K:Bool)(L:List T)(M:Bool)(N:List T)(O:Bool)(P:List T)(Q:List RowV)(R:List T) :WL12_9 (fun e st=>gP 12 0 62 Try.f12 (Ta12 KL12_6 KL12_9) (.lp::PaL12_9) e st) i7 n9 A B C D E F G H I J K L M N O P Q R=RL12_9 (WL12_6 KL12_6) (WL12_9 KL12_9) i7 n9 A B C D E F G H I J K L M N O P Q R:=by kernel_rfl
theorem L12_9_eq(i7 n9 A B C D E:Int)(F:Bool)(G:List T)(H I J:Int)(K:Bool)(L:List T)(M:Bool)(N:List T)(O:Bool)(P:List T)(Q:List RowV)(R:List T) :L12_9 i7 n9 A B C D E F G H I J K L M N O P Q R=RL12_9 L12_6 L12_9 i7 n9 A B C D E F G H I J K L M N O P Q R:=
 (congrArg (fun k=>WL12_9 k i7 n9 A B C D E F G H I J K L M N O P Q R) (funext fun e=>funext fun st=>round_eq Try.prog hint (b:=(nav (List.reverse (.lp::PaL12_9)) (bodyOf Try.f12))) (fn:=Try.f12) (nt:=62) (T:=(Ta12 VL12_6 VL12_9)) [PaL12_6,PaL12_9] rfl PaL12_9 e st rfl rfl rfl)).trans (L12_9g VL12_6 VL12_9 i7 n9 A B C D E F G H I J K L M N O P Q R)
noncomputable def R24(L24_6:YL24_6)(L24_10:YL24_10)(A B C:Int)(D:Bool)(E:List T) :Option Res:=callK (vr 23 0 [.t (.agg [.int .i64 A, .int .i64 B, .int .i64 C, .list 5 D E])] ⟨[],[]⟩) fun a b=>asTup a fun c=>consV c fun a d=>asT a fun c=>asL 1 c fun a f=>consV d fun c g=>asT c fun d=>asI .i64 d fun c=>endV g <| endB b <|
(bif (!decide (c=0)) then
 Z0 c
else
 needC (decide (0≤(E.length:Int)) &&decide ((E.length:Int)≤(E.length:Int)) &&decide ((E.length:Int)*(24+1)≤70368744177664)) fun _=>L24_6 (a) (f) (A) (0) (A) (B) (C) (D) (E) (((List.replicate ((E.length:Int)).toNat ((.list 1 false []):T)).map rowOf)))
theorem eq24g(KL24_6 KL24_10:Env→St→Option Res)(A B C:Int)(D:Bool)(E:List T) :gE 24 0 60 Try.f24 (Ta24 KL24_6 KL24_10) [.t (.agg [.int .i64 A, .int .i64 B, .int .i64 C, .list 5 D E])] ⟨[],[]⟩=R24 (WL24_6 KL24_6) (WL24_10 KL24_10) A B C D E:=by kernel_rfl
theorem eq24(A B C:Int)(D:Bool)(E:List T) :vr 24 0 [.t (.agg [.int .i64 A, .int .i64 B, .int .i64 C, .list 5 D E])] ⟨[],[]⟩=R24 L24_6 L24_10 A B C D E:=
 Eq.trans (call_eq Try.prog hint (fn:=Try.f24) (nt:=60) (T:=(Ta24 VL24_6 VL24_10)) [PaL24_6,PaL24_10] rfl _ _ rfl rfl rfl rfl rfl) (eq24g VL24_6 VL24_10 A B C D E)
noncomputable def RL24_6(L24_6:YL24_6)(L24_10:YL24_10)(all4z:Bool)(all4:List T)(A B C D E:Int)(F:Bool)(G:List T)(H:List RowV) :Option Res:=
(bif (decide (B<A)) then
 callK (vr 47 0 [.t (.agg [.int .i64 C, .int .i64 D, .int .i64 E, .list 5 F G]), .t (.int .i64 B)] ⟨[],[]⟩) fun a b=>asT a fun c=>asL 1 c fun a d=>endB b <| L24_10 (all4z) (all4) (B) (a) (d) (A) (B) ((G.length:Int)) (0) (C) (D) (E) (F) (G) (H)
else
 treesC 1 H fun ts_6=>some ((.tup [.t (.list 1 true ts_6), .t (.int .i64 0)]),⟨[],[]⟩))
theorem L24_6g(KL24_6 KL24_10:Env→St→Option Res)(all4z:Bool)(all4:List T)(A B C D E:Int)(F:Bool)(G:List T)(H:List RowV) :WL24_6 (fun e st=>gP 24 0 60 Try.f24 (Ta24 KL24_6 KL24_10) (.lp::PaL24_6) e st) all4z all4 A B C D E F G H=RL24_6 (WL24_6 KL24_6) (WL24_10 KL24_10) all4z all4 A B C D E F G H:=by kernel_rfl
theorem L24_6_eq(all4z:Bool)(all4:List T)(A B C D E:Int)(F:Bool)(G:List T)(H:List RowV) :L24_6 all4z all4 A B C D E F G H=RL24_6 L24_6 L24_10 all4z all4 A B C D E F G H:=
 (congrArg (fun k=>WL24_6 k all4z all4 A B C D E F G H) (funext fun e=>funext fun st=>round_eq Try.prog hint (b:=(nav (List.reverse (.lp::PaL24_6)) (bodyOf Try.f24))) (fn:=Try.f24) (nt:=60) (T:=(Ta24 VL24_6 VL24_10)) [PaL24_6,PaL24_10] rfl PaL24_6 e st rfl rfl rfl)).trans (L24_6g VL24_6 VL24_10 all4z all4 A B C D E F G H)
noncomputable def RL24_10(L24_6:YL24_6)(L24_10:YL24_10)(all4z:Bool)(all4:List T)(n7:Int)(without8z:Bool)(without8:List T)(A B C D E F G:Int)(H:Bool)(I:List T)(J:List RowV) :Option Res:=
(bif (decide (D<C)) then
 needC (decide (0≤D)) fun _=>getT all4 (D).toNat fun a=>asB a fun b=>
(bif b then
 needC (decide (0≤D)) fun _=>getT without8 (D).toNat fun a=>asB a fun b=>
(bif (!b) then
 needC (decide (0≤D) &&decide (D<(J.length:Int))) fun _=>rowC J ((D).toNat) fun a b=>needC (decide ((b.length+1)*(8+1)≤70368744177664) &&decide (8≤1048576)) fun _=>needC (decide (0≤D) &&decide (D<(((J.set ((D).toNat) .gone)).length:Int))) fun _=>needC (decide ((D).toNat<((J.set ((D).toNat) .gone)).length)) fun _=>L24_10 (all4z) (all4) (n7) (without8z) (without8) (A) (B) (C) ((IntKind.i64.wrap (D+1))) (E) (F) (G) (H) (I) ((((J.set ((D).toNat) .gone)).set ((D).toNat) (.own ((a || true)) ((b++([.int .i64 n7]:List T))))))
else
 L24_10 (all4z) (all4) (n7) (without8z) (without8) (A) (B) (C) ((IntKind.i64.wrap (D+1))) (E) (F) (G) (H) (I) (J))
else
 L24_10 (all4z) (all4) (n7) (without8z) (without8) (A) (B) (C) ((IntKind.i64.wrap (D+1))) (E) (F) (G) (H) (I) (J))
else
 L24_6 (all4z) (all4) (A) ((IntKind.i64.wrap (B+1))) (E) (F) (G) (H) (I) (J))
theorem L24_10g(KL24_6 KL24_10:Env→St→Option Res)(all4z:Bool)(all4:List T)(n7:Int)(without8z:Bool)(without8:List T)(A B C D E F G:Int)(H:Bool)(I:List T)(J:List RowV) :WL24_10 (fun e st=>gP 24 0 60 Try.f24 (Ta24 KL24_6 KL24_10) (.lp::PaL24_10) e st) all4z all4 n7 without8z without8 A B C D E F G H I J=RL24_10 (WL24_6 KL24_6) (WL24_10 KL24_10) all4z all4 n7 without8z without8 A B C D E F G H I J:=by kernel_rfl
theorem L24_10_eq(all4z:Bool)(all4:List T)(n7:Int)(without8z:Bool)(without8:List T)(A B C D E F G:Int)(H:Bool)(I:List T)(J:List RowV) :L24_10 all4z all4 n7 without8z without8 A B C D E F G H I J=RL24_10 L24_6 L24_10 all4z all4 n7 without8z without8 A B C D E F G H I J:=
 (congrArg (fun k=>WL24_10 k all4z all4 n7 without8z without8 A B C D E F G H I J) (funext fun e=>funext fun st=>round_eq Try.prog hint (b:=(nav (List.reverse (.lp::PaL24_10)) (bodyOf Try.f24))) (fn:=Try.f24) (nt:=60) (T:=(Ta24 VL24_6 VL24_10)) [PaL24_6,PaL24_10] rfl PaL24_10 e st rfl rfl rfl)).trans (L24_10g VL24_6 VL24_10 all4z all4 n7 without8z without8 A B C D E F G H I J)
noncomputable def R49(L49_4:YL49_4)(A B C D E:Int) :Option Res:=callK (vr 63 0 [.t (.int .i64 A)] ⟨[],[]⟩) fun a b=>asTup a fun c=>consV c fun a d=>asT a fun c=>asS c fun a=>consV d fun a c=>asT a fun d=>asS d fun a=>endV c <| endB b <| L49_4 (a) ((a.size:Int)) (0) (A) (B) (C) (D) (E) (false) ([])
theorem eq49g(KL49_4:Env→St→Option Res)(A B C D E:Int) :gE 49 0 32 Try.f49 (Ta49 KL49_4) [.t (.agg [.int .i64 A, .int .i64 B, .int .i64 C, .int .i64 D, .int .i64 E])] ⟨[],[]⟩=R49 (WL49_4 KL49_4) A B C D E:=by kernel_rfl
theorem eq49(A B C D E:Int) :vr 49 0 [.t (.agg [.int .i64 A, .int .i64 B, .int .i64 C, .int .i64 D, .int .i64 E])] ⟨[],[]⟩=R49 L49_4 A B C D E:=
 Eq.trans (call_eq Try.prog hint (fn:=Try.f49) (nt:=32) (T:=(Ta49 VL49_4)) [PaL49_4] rfl _ _ rfl rfl rfl rfl rfl) (eq49g VL49_4 A B C D E)
noncomputable def RL49_4(L49_4:YL49_4)(kinds4:ByteArray)(A B C D E F G:Int)(H:Bool)(I:List T) :Option Res:=
(bif (decide (B<A)) then
 needC (decide (0≤B) &&decide (B<(kinds4.size:Int))) fun _=>
(bif (decide ((((kinds4:ByteArray)[(B).toNat]!).toNat:Int)=114)) then
 callK (vr 64 0 [.t (.agg [.int .i64 C, .int .i64 D, .int .i64 E, .int .i64 F, .int .i64 G])] ⟨[],[]⟩) fun a b=>asT a fun c=>asL 1 c fun a d=>endB b <| needC (decide (0≤B)) fun _=>getT d (B).toNat fun a=>asI .i64 a fun b=>needC (decide ((I.length+1)*(8+1)≤70368744177664) &&decide (8≤1048576)) fun _=>L49_4 (kinds4) (A) ((IntKind.i64.wrap (B+1))) (C) (D) (E) (F) (G) ((H || true)) ((I++([.int .i64 b]:List T)))
else
 L49_4 (kinds4) (A) ((IntKind.i64.wrap (B+1))) (C) (D) (E) (F) (G) (H) (I))
else
 some ((.t (.list 1 H I)),⟨[],[]⟩))
theorem L49_4g(KL49_4:Env→St→Option Res)(kinds4:ByteArray)(A B C D E F G:Int)(H:Bool)(I:List T) :WL49_4 (fun e st=>gP 49 0 32 Try.f49 (Ta49 KL49_4) (.lp::PaL49_4) e st) kinds4 A B C D E F G H I=RL49_4 (WL49_4 KL49_4) kinds4 A B C D E F G H I:=by kernel_rfl
theorem L49_4_eq(kinds4:ByteArray)(A B C D E F G:Int)(H:Bool)(I:List T) :L49_4 kinds4 A B C D E F G H I=RL49_4 L49_4 kinds4 A B C D E F G H I:=
 (congrArg (fun k=>WL49_4 k kinds4 A B C D E F G H I) (funext fun e=>funext fun st=>round_eq Try.prog hint (b:=(nav (List.reverse (.lp::PaL49_4)) (bodyOf Try.f49))) (fn:=Try.f49) (nt:=32) (T:=(Ta49 VL49_4)) [PaL49_4] rfl PaL49_4 e st rfl rfl rfl)).trans (L49_4g VL49_4 kinds4 A B C D E F G H I)
noncomputable def R50(L50_2:YL50_2)(A:Bool)(B:List T)(C:Int) :Option Res:=L50_2 (C) (A) (B) ((B.length:Int)) (0)
theorem eq50g(KL50_2:Env→St→Option Res)(A:Bool)(B:List T)(C:Int) :gE 50 0 17 Try.f50 (Ta50 KL50_2) [.t (.list 1 A B), .t (.int .i64 C)] ⟨[],[]⟩=R50 (WL50_2 KL50_2) A B C:=by kernel_rfl
theorem eq50(A:Bool)(B:List T)(C:Int) :vr 50 0 [.t (.list 1 A B), .t (.int .i64 C)] ⟨[],[]⟩=R50 L50_2 A B C:=
 Eq.trans (call_eq Try.prog hint (fn:=Try.f50) (nt:=17) (T:=(Ta50 VL50_2)) [PaL50_2] rfl _ _ rfl rfl rfl rfl rfl) (eq50g VL50_2 A B C)
noncomputable def RL50_2(L50_2:YL50_2)(n1:Int)(A:Bool)(B:List T)(C D:Int) :Option Res:=
(bif (decide (D<C)) then
 needC (decide (0≤D)) fun _=>getT B (D).toNat fun a=>asI .i64 a fun b=>
(bif (decide (b=n1)) then
 some ((.t (.bool true)),⟨[],[]⟩)
else
 L50_2 (n1) (A) (B) (C) ((IntKind.i64.wrap (D+1))))
else
 some ((.t (.bool false)),⟨[],[]⟩))
theorem L50_2g(KL50_2:Env→St→Option Res)(n1:Int)(A:Bool)(B:List T)(C D:Int) :WL50_2 (fun e st=>gP 50 0 17 Try.f50 (Ta50 KL50_2) (.lp::PaL50_2) e st) n1 A B C D=RL50_2 (WL50_2 KL50_2) n1 A B C D:=by kernel_rfl
theorem L50_2_eq(n1:Int)(A:Bool)(B:List T)(C D:Int) :L50_2 n1 A B C D=RL50_2 L50_2 n1 A B C D:=
 (congrArg (fun k=>WL50_2 k n1 A B C D) (funext fun e=>funext fun st=>round_eq Try.prog hint (b:=(nav (List.reverse (.lp::PaL50_2)) (bodyOf Try.f50))) (fn:=Try.f50) (nt:=17) (T:=(Ta50 VL50_2)) [PaL50_2] rfl PaL50_2 e st rfl rfl rfl)).trans (L50_2g VL50_2 n1 A B C D)
noncomputable def R26(L26_7:YL26_7)(L26_11:YL26_11)(A B C:Int)(D:Bool)(E:List T) :Option Res:=callK (vr 23 0 [.t (.agg [.int .i64 A, .int .i64 B, .int .i64 C, .list 5 D E])] ⟨[],[]⟩) fun a b=>asTup a fun c=>consV c fun a d=>asT a fun c=>asL 1 c fun a f=>consV d fun c g=>asT c fun d=>asI .i64 d fun c=>endV g <| endB b <|
(bif (!decide (c=0)) then
 Z0 c
else
 callK (vr 24 0 [.t (.agg [.int .i64 A, .int .i64 B, .int .i64 C, .list 5 D E])] ⟨[],[]⟩) fun b c=>asTup b fun d=>consV d fun b g=>asT b fun d=>asL 1 d fun b h=>consV g fun d i=>asT d fun g=>asI .i64 g fun d=>endV i <| endB c <| L26_7 (a) (f) (b) (h) (D) (E) ((E.length:Int)) (0) (false) ([]))
theorem eq26g(KL26_7 KL26_11:Env→St→Option Res)(A B C:Int)(D:Bool)(E:List T) :gE 26 0 66 Try.f26 (Ta26 KL26_7 KL26_11) [.t (.agg [.int .i64 A, .int .i64 B, .int .i64 C, .list 5 D E])] ⟨[],[]⟩=R26 (WL26_7 KL26_7) (WL26_11 KL26_11) A B C D E:=by kernel_rfl
theorem eq26(A B C:Int)(D:Bool)(E:List T) :vr 26 0 [.t (.agg [.int .i64 A, .int .i64 B, .int .i64 C, .list 5 D E])] ⟨[],[]⟩=R26 L26_7 L26_11 A B C D E:=
 Eq.trans (call_eq Try.prog hint (fn:=Try.f26) (nt:=66) (T:=(Ta26 VL26_7 VL26_11)) [PaL26_7,PaL26_11] rfl _ _ rfl rfl rfl rfl rfl) (eq26g VL26_7 VL26_11 A B C D E)
noncomputable def RL26_7(L26_7:YL26_7)(L26_11:YL26_11)(all4z:Bool)(all4:List T)(set6z:Bool)(set6:List T)(A:Bool)(B:List T)(C D:Int)(E:Bool)(F:List T) :Option Res:=
(bif (decide (D<C)) then
 needC (decide (0≤D)) fun _=>getT B (D).toNat fun a=>asA a fun b=>consT b fun a c=>asI .i64 a fun b=>consT c fun a d=>asI .i64 a fun c=>consT d fun a f=>asI .i64 a fun d=>consT f fun a g=>asI .i64 a fun f=>consT g fun a h=>asI .i64 a fun g=>endT h <| callK (vr 49 0 [.t (.agg [.int .i64 b, .int .i64 c, .int .i64 d, .int .i64 f, .int .i64 g])] ⟨[],[]⟩) fun a h=>asT a fun b=>asL 1 b fun a c=>endB h <| L26_11 (all4z) (all4) (set6z) (set6) (D) (false) (A) (B) (C) (D) (a) (c) ((c.length:Int)) (0) (E) (F)
else
 some ((.tup [.t (.list 1 E F), .t (.int .i64 0)]),⟨[],[]⟩))
theorem L26_7g(KL26_7 KL26_11:Env→St→Option Res)(all4z:Bool)(all4:List T)(set6z:Bool)(set6:List T)(A:Bool)(B:List T)(C D:Int)(E:Bool)(F:List T) :WL26_7 (fun e st=>gP 26 0 66 Try.f26 (Ta26 KL26_7 KL26_11) (.lp::PaL26_7) e st) all4z all4 set6z set6 A B C D E F=RL26_7 (WL26_7 KL26_7) (WL26_11 KL26_11) all4z all4 set6z set6 A B C D E F:=by kernel_rfl
theorem L26_7_eq(all4z:Bool)(all4:List T)(set6z:Bool)(set6:List T)(A:Bool)(B:List T)(C D:Int)(E:Bool)(F:List T) :L26_7 all4z all4 set6z set6 A B C D E F=RL26_7 L26_7 L26_11 all4z all4 set6z set6 A B C D E F:=
 (congrArg (fun k=>WL26_7 k all4z all4 set6z set6 A B C D E F) (funext fun e=>funext fun st=>round_eq Try.prog hint (b:=(nav (List.reverse (.lp::PaL26_7)) (bodyOf Try.f26))) (fn:=Try.f26) (nt:=66) (T:=(Ta26 VL26_7 VL26_11)) [PaL26_7,PaL26_11] rfl PaL26_7 e st rfl rfl rfl)).trans (L26_7g VL26_7 VL26_11 all4z all4 set6z set6 A B C D E F)
noncomputable def RL26_11(L26_7:YL26_7)(L26_11:YL26_11)(all4z:Bool)(all4:List T)(set6z:Bool)(set6:List T)(i9:Int)(bad11 A:Bool)(B:List T)(C D:Int)(E:Bool)(F:List T)(G H:Int)(I:Bool)(J:List T) :Option Res:=
(bif (decide (H<G)) then
 needC (decide (0≤H)) fun _=>getT F (H).toNat fun a=>asI .i64 a fun b=>
(bif bad11 then
 L26_11 (all4z) (all4) (set6z) (set6) (i9) (true) (A) (B) (C) (D) (E) (F) (G) ((IntKind.i64.wrap (H+1))) (I) (J)
else
 needC (decide (0≤i9)) fun _=>getT all4 (i9).toNat fun a=>asB a fun c=>
(bif c then
 needC (decide (0≤i9)) fun _=>getT set6 (i9).toNat fun a=>asL 1 a fun c d=>callK (vr 50 0 [.t (.list 1 c d), .t (.int .i64 b)] ⟨[],[]⟩) fun a f=>asT a fun b=>asB b fun a=>endB f <| L26_11 (all4z) (all4) (set6z) (set6) (i9) ((!a)) (A) (B) (C) (D) (E) (F) (G) ((IntKind.i64.wrap (H+1))) (I) (J)
else
 L26_11 (all4z) (all4) (set6z) (set6) (i9) (false) (A) (B) (C) (D) (E) (F) (G) ((IntKind.i64.wrap (H+1))) (I) (J)))
else
(bif bad11 then
 needC (decide ((J.length+1)*(8+1)≤70368744177664) &&decide (8≤1048576)) fun _=>L26_7 (all4z) (all4) (set6z) (set6) (A) (B) (C) ((IntKind.i64.wrap (D+1))) ((I || true)) ((J++([.int .i64 i9]:List T)))
else
 L26_7 (all4z) (all4) (set6z) (set6) (A) (B) (C) ((IntKind.i64.wrap (D+1))) (I) (J)))
theorem L26_11g(KL26_7 KL26_11:Env→St→Option Res)(all4z:Bool)(all4:List T)(set6z:Bool)(set6:List T)(i9:Int)(bad11 A:Bool)(B:List T)(C D:Int)(E:Bool)(F:List T)(G H:Int)(I:Bool)(J:List T) :WL26_11 (fun e st=>gP 26 0 66 Try.f26 (Ta26 KL26_7 KL26_11) (.lp::PaL26_11) e st) all4z all4 set6z set6 i9 bad11 A B C D E F G H I J=RL26_11 (WL26_7 KL26_7) (WL26_11 KL26_11) all4z all4 set6z set6 i9 bad11 A B C D E F G H I J:=by kernel_rfl
theorem L26_11_eq(all4z:Bool)(all4:List T)(set6z:Bool)(set6:List T)(i9:Int)(bad11 A:Bool)(B:List T)(C D:Int)(E:Bool)(F:List T)(G H:Int)(I:Bool)(J:List T) :L26_11 all4z all4 set6z set6 i9 bad11 A B C D E F G H I J=RL26_11 L26_7 L26_11 all4z all4 set6z set6 i9 bad11 A B C D E F G H I J:=
 (congrArg (fun k=>WL26_11 k all4z all4 set6z set6 i9 bad11 A B C D E F G H I J) (funext fun e=>funext fun st=>round_eq Try.prog hint (b:=(nav (List.reverse (.lp::PaL26_11)) (bodyOf Try.f26))) (fn:=Try.f26) (nt:=66) (T:=(Ta26 VL26_7 VL26_11)) [PaL26_7,PaL26_11] rfl PaL26_11 e st rfl rfl rfl)).trans (L26_11g VL26_7 VL26_11 all4z all4 set6z set6 i9 bad11 A B C D E F G H I J)
noncomputable def R17(L17_7:YL17_7)(L17_14:YL17_14)(A B C:Int)(D:Bool)(E:List T) :Option Res:=callK (vr 33 0 [.t (.agg [.int .i64 A, .int .i64 B, .int .i64 C, .list 5 D E])] ⟨[],[]⟩) fun a b=>
(bif fitsH (.tup [.nilp, .t (.one (.int .i64))]) [] a b then
 asTup a fun c=>consV c fun d f=>isNil d <| consV f fun c d=>asT c fun f=>asI .i64 f fun c=>endV d <| endB b <|
(bif (!decide (c=0)) then
 some ((.tup [.agg [.t (.int .i64 0), .t (.int .i64 0), .t (.int .i64 0), .buf 500], .t (.int .i64 c)]),⟨[(500, .arr true 5 false [])],[500]⟩)
else
 needC (decide (0≤(E.length:Int)) &&decide ((E.length:Int)≤(E.length:Int)) &&decide ((E.length:Int)*(8+1)≤70368744177664)) fun _=>none)
else
 asTup a fun c=>consV c fun a d=>isPtr 500 0 0 a <| consV d fun a c=>asT a fun d=>asI .i64 d fun a=>endV c <| consB 500 b fun c d=>asVar c fun b=>consV b fun c f=>asT c fun b=>asI .i64 b fun c=>consV f fun b g=>asT b fun f=>asI .i64 f fun b=>consV g fun f h=>asT f fun g=>asI .i64 g fun f=>consV h fun g i=>asT g fun h=>asL 5 h fun g j=>consV i fun h k=>isBuf 501 h <| consV k fun h i=>isBuf 502 h <| endV i <| consB 501 d fun h i=>asArr 2 h fun d k=>consB 502 i fun h l=>asArr 1 h fun i m=>endB l <|
(bif (!decide (a=0)) then
 some ((.tup [.agg [.t (.int .i64 0), .t (.int .i64 0), .t (.int .i64 0), .buf 500], .t (.int .i64 a)]),⟨[(500, .arr true 5 false [])],[500]⟩)
else
 needC (decide (0≤(E.length:Int)) &&decide ((E.length:Int)≤(E.length:Int)) &&decide ((E.length:Int)*(8+1)≤70368744177664)) fun _=>L17_7 (g) (j) ((j.length:Int)) (0) (A) (B) (C) (false) ([]) (0) (0) (0) (false) ([]) (c) (b) (f) (g) (j) (d) (k) (i) (m) (true) ((List.replicate ((E.length:Int)).toNat ((.int .i64 0):T)))))
theorem eq17g(KL17_7 KL17_14:Env→St→Option Res)(A B C:Int)(D:Bool)(E:List T) :gE 17 0 97 Try.f17 (Ta17 KL17_7 KL17_14) [.t (.agg [.int .i64 A, .int .i64 B, .int .i64 C, .list 5 D E])] ⟨[],[]⟩=R17 (WL17_7 KL17_7) (WL17_14 KL17_14) A B C D E:=by kernel_rfl
theorem eq17(A B C:Int)(D:Bool)(E:List T) :vr 17 0 [.t (.agg [.int .i64 A, .int .i64 B, .int .i64 C, .list 5 D E])] ⟨[],[]⟩=R17 L17_7 L17_14 A B C D E:=
 Eq.trans (call_eq Try.prog hint (fn:=Try.f17) (nt:=97) (T:=(Ta17 VL17_7 VL17_14)) [PaL17_7,PaL17_14] rfl _ _ rfl rfl rfl rfl rfl) (eq17g VL17_7 VL17_14 A B C D E)
noncomputable def RL17_7(L17_7:YL17_7)(L17_14:YL17_14)(A:Bool)(B:List T)(C D E F G:Int)(H:Bool)(I:List T)(J K L:Int)(M:Bool)(N:List T)(O P Q:Int)(R:Bool)(S:List T)(U:Bool)(V:List T)(W:Bool)(X:List T)(Y:Bool)(Z:List T) :Option Res:=
(bif (decide (D<C)) then
 needC (decide (0≤D)) fun _=>getT B (D).toNat fun a=>asA a fun b=>consT b fun a c=>asI .i64 a fun b=>consT c fun a d=>asI .i64 a fun c=>consT d fun a f=>asI .i64 a fun d=>consT f fun a g=>asI .i64 a fun f=>consT g fun a h=>asI .i64 a fun g=>endT h <| needC (decide (0≤D) &&decide (D<(Z.length:Int))) fun _=>needC (Y &&true) fun _=>setT Z ((D).toNat) (.int .i64 (I.length:Int)) fun a=>needC (decide (0≤D) &&decide (D<(X.length:Int))) fun _=>getT X ((D).toNat) fun h=>asB h fun i=>
(bif i then
 needC (decide ((I.length+1)*(40+1)≤70368744177664) &&decide (40≤1048576)) fun _=>L17_7 (A) (B) (C) ((IntKind.i64.wrap (D+1))) (E) (F) (G) ((H || true)) ((I++([.agg [.int .i64 b, .int .i64 c, .int .i64 d, .int .i64 f, .int .i64 g]]:List T))) (J) (K) (L) (M) (N) (O) (P) (Q) (R) (S) (U) (V) (W) (X) (Y) (a)
else
 L17_7 (A) (B) (C) ((IntKind.i64.wrap (D+1))) (E) (F) (G) (H) (I) (J) (K) (L) (M) (N) (O) (P) (Q) (R) (S) (U) (V) (W) (X) (Y) (a))
else
 L17_14 ((I.length:Int)) (0) (E) (F) (G) (H) (I) (J) (K) (L) (M) (N) (Y) (Z))
theorem L17_7g(KL17_7 KL17_14:Env→St→Option Res)(A:Bool)(B:List T)(C D E F G:Int)(H:Bool)(I:List T)(J K L:Int)(M:Bool)(N:List T)(O P Q:Int)(R:Bool)(S:List T)(U:Bool)(V:List T)(W:Bool)(X:List T)(Y:Bool)(Z:List T) :WL17_7 (fun e st=>gP 17 0 97 Try.f17 (Ta17 KL17_7 KL17_14) (.lp::PaL17_7) e st) A B C D E F G H I J K L M N O P Q R S U V W X Y Z=RL17_7 (WL17_7 KL17_7) (WL17_14 KL17_14) A B C D E F G H I J K L M N O P Q R S U V W X Y Z:=by kernel_rfl
theorem L17_7_eq(A:Bool)(B:List T)(C D E F G:Int)(H:Bool)(I:List T)(J K L:Int)(M:Bool)(N:List T)(O P Q:Int)(R:Bool)(S:List T)(U:Bool)(V:List T)(W:Bool)(X:List T)(Y:Bool)(Z:List T) :L17_7 A B C D E F G H I J K L M N O P Q R S U V W X Y Z=RL17_7 L17_7 L17_14 A B C D E F G H I J K L M N O P Q R S U V W X Y Z:=
 (congrArg (fun k=>WL17_7 k A B C D E F G H I J K L M N O P Q R S U V W X Y Z) (funext fun e=>funext fun st=>round_eq Try.prog hint (b:=(nav (List.reverse (.lp::PaL17_7)) (bodyOf Try.f17))) (fn:=Try.f17) (nt:=97) (T:=(Ta17 VL17_7 VL17_14)) [PaL17_7,PaL17_14] rfl PaL17_7 e st rfl rfl rfl)).trans (L17_7g VL17_7 VL17_14 A B C D E F G H I J K L M N O P Q R S U V W X Y Z)
noncomputable def RL17_14(L17_7:YL17_7)(L17_14:YL17_14)(A B C D E:Int)(F:Bool)(G:List T)(H I J:Int)(K:Bool)(L:List T)(M:Bool)(N:List T) :Option Res:=
(bif (decide (B<A)) then
 needC (decide (0≤B) &&decide (B<(G.length:Int))) fun _=>getT G ((B).toNat) fun a=>getT (T.cells a) 0 fun b=>asI .i64 b fun a=>
(bif (decide (a=10)) then
 getT G ((B).toNat) fun b=>getT (T.cells b) 1 fun c=>asI .i64 c fun b=>needC (decide (0≤b) &&decide (b<(N.length:Int))) fun _=>getT N ((b).toNat) fun c=>asI .i64 c fun b=>needC (F &&true) fun _=>getT G ((B).toNat) fun c=>needC (decide (1+1≤(T.cells c).length) &&Nat.ble 2 5) fun _=>L17_14 (A) ((IntKind.i64.wrap (B+1))) (C) (D) (E) (F) ((G.set ((B).toNat) (.agg (spliceT (T.cells c) 1 [.int .i64 b])))) (H) (I) (J) (K) (L) (M) (N)
else
(bif (decide (a=11)) then
 getT G ((B).toNat) fun b=>getT (T.cells b) 3 fun c=>asI .i64 c fun b=>needC (decide (0≤b) &&decide (b<(N.length:Int))) fun _=>getT N ((b).toNat) fun c=>asI .i64 c fun b=>needC (F &&true) fun _=>getT G ((B).toNat) fun c=>needC (decide (3+1≤(T.cells c).length) &&Nat.ble 2 5) fun _=>L17_14 (A) ((IntKind.i64.wrap (B+1))) (C) (D) (E) (F) ((G.set ((B).toNat) (.agg (spliceT (T.cells c) 3 [.int .i64 b])))) (H) (I) (J) (K) (L) (M) (N)
else
(bif (decide (a=12)) then
 getT G ((B).toNat) fun a=>getT (T.cells a) 3 fun b=>asI .i64 b fun a=>needC (decide (0≤a) &&decide (a<(N.length:Int))) fun _=>getT N ((a).toNat) fun b=>asI .i64 b fun a=>needC (F &&true) fun _=>getT G ((B).toNat) fun b=>needC (decide (3+1≤(T.cells b).length) &&Nat.ble 2 5) fun _=>L17_14 (A) ((IntKind.i64.wrap (B+1))) (C) (D) (E) (F) ((G.set ((B).toNat) (.agg (spliceT (T.cells b) 3 [.int .i64 a])))) (H) (I) (J) (K) (L) (M) (N)
else
 L17_14 (A) ((IntKind.i64.wrap (B+1))) (C) (D) (E) (F) (G) (H) (I) (J) (K) (L) (M) (N))))
else
 some ((.tup [.agg [.t (.int .i64 C), .t (.int .i64 D), .t (.int .i64 E), .buf 500], .t (.int .i64 0)]),⟨[(500, .arr true 5 F G)],[500]⟩))
theorem L17_14g(KL17_7 KL17_14:Env→St→Option Res)(A B C D E:Int)(F:Bool)(G:List T)(H I J:Int)(K:Bool)(L:List T)(M:Bool)(N:List T) :WL17_14 (fun e st=>gP 17 0 97 Try.f17 (Ta17 KL17_7 KL17_14) (.lp::PaL17_14) e st) A B C D E F G H I J K L M N=RL17_14 (WL17_7 KL17_7) (WL17_14 KL17_14) A B C D E F G H I J K L M N:=by kernel_rfl
theorem L17_14_eq(A B C D E:Int)(F:Bool)(G:List T)(H I J:Int)(K:Bool)(L:List T)(M:Bool)(N:List T) :L17_14 A B C D E F G H I J K L M N=RL17_14 L17_7 L17_14 A B C D E F G H I J K L M N:=
 (congrArg (fun k=>WL17_14 k A B C D E F G H I J K L M N) (funext fun e=>funext fun st=>round_eq Try.prog hint (b:=(nav (List.reverse (.lp::PaL17_14)) (bodyOf Try.f17))) (fn:=Try.f17) (nt:=97) (T:=(Ta17 VL17_7 VL17_14)) [PaL17_7,PaL17_14] rfl PaL17_14 e st rfl rfl rfl)).trans (L17_14g VL17_7 VL17_14 A B C D E F G H I J K L M N)
noncomputable def R27(L27_7:YL27_7)(L27_15:YL27_15)(J27_24:YJ27_24)(A B C:Int)(D:Bool)(E:List T) :Option Res:=callK (vr 23 0 [.t (.agg [.int .i64 A, .int .i64 B, .int .i64 C, .list 5 D E])] ⟨[],[]⟩) fun a b=>asTup a fun c=>consV c fun a d=>asT a fun c=>asL 1 c fun a f=>consV d fun c g=>asT c fun d=>asI .i64 d fun c=>endV g <| endB b <|
(bif (!decide (c=0)) then
 some ((.tup [.t (.agg [.int .i64 0, .int .i64 0, .int .i64 0, .list 5 false []]), .t (.int .i64 c)]),⟨[],[]⟩)
else
 needC (decide (0≤(E.length:Int)) &&decide ((E.length:Int)≤(E.length:Int)) &&decide ((E.length:Int)*(8+1)≤70368744177664)) fun _=>L27_7 (a) (f) (0) ((E.length:Int)) (0) (A) (B) (C) (D) (E) (0) (0) (0) (false) ([]) (true) ((List.replicate ((E.length:Int)).toNat ((.int .i64 0):T))))
theorem eq27g(KL27_7 KL27_15 KJ27_24:Env→St→Option Res)(A B C:Int)(D:Bool)(E:List T) :gE 27 0 89 Try.f27 (Ta27 KL27_7 KL27_15 KJ27_24) [.t (.agg [.int .i64 A, .int .i64 B, .int .i64 C, .list 5 D E])] ⟨[],[]⟩=R27 (WL27_7 KL27_7) (WL27_15 KL27_15) (WJ27_24 KJ27_24) A B C D E:=by kernel_rfl
theorem eq27(A B C:Int)(D:Bool)(E:List T) :vr 27 0 [.t (.agg [.int .i64 A, .int .i64 B, .int .i64 C, .list 5 D E])] ⟨[],[]⟩=R27 L27_7 L27_15 J27_24 A B C D E:=
 Eq.trans (call_eq Try.prog hint (fn:=Try.f27) (nt:=89) (T:=(Ta27 VL27_7 VL27_15 VJ27_24)) [PaL27_7,PaL27_15,PaJ27_24] rfl _ _ rfl rfl rfl rfl rfl) (eq27g VL27_7 VL27_15 VJ27_24 A B C D E)
noncomputable def RL27_7(L27_7:YL27_7)(L27_15:YL27_15)(J27_24:YJ27_24)(all4z:Bool)(all4:List T)(n7 A B C D E:Int)(F:Bool)(G:List T)(H I J:Int)(K:Bool)(L:List T)(M:Bool)(N:List T) :Option Res:=
(bif (decide (B<A)) then
 needC (decide (0≤B) &&decide (B<(N.length:Int))) fun _=>needC (M &&true) fun _=>setT N ((B).toNat) (.int .i64 n7) fun a=>needC (decide (0≤B)) fun _=>getT all4 (B).toNat fun b=>asB b fun c=>
(bif c then
 L27_7 (all4z) (all4) ((IntKind.i64.wrap (n7+1))) (A) ((IntKind.i64.wrap (B+1))) (C) (D) (E) (F) (G) (H) (I) (J) (K) (L) (M) (a)
else
 L27_7 (all4z) (all4) (n7) (A) ((IntKind.i64.wrap (B+1))) (C) (D) (E) (F) (G) (H) (I) (J) (K) (L) (M) (a))
else
 L27_15 (all4z) (all4) (F) (G) ((G.length:Int)) (0) (H) (I) (J) (K) (L) (M) (N) (C) (D) (E) (false) ([]))
theorem L27_7g(KL27_7 KL27_15 KJ27_24:Env→St→Option Res)(all4z:Bool)(all4:List T)(n7 A B C D E:Int)(F:Bool)(G:List T)(H I J:Int)(K:Bool)(L:List T)(M:Bool)(N:List T) :WL27_7 (fun e st=>gP 27 0 89 Try.f27 (Ta27 KL27_7 KL27_15 KJ27_24) (.lp::PaL27_7) e st) all4z all4 n7 A B C D E F G H I J K L M N=RL27_7 (WL27_7 KL27_7) (WL27_15 KL27_15) (WJ27_24 KJ27_24) all4z all4 n7 A B C D E F G H I J K L M N:=by kernel_rfl
theorem L27_7_eq(all4z:Bool)(all4:List T)(n7 A B C D E:Int)(F:Bool)(G:List T)(H I J:Int)(K:Bool)(L:List T)(M:Bool)(N:List T) :L27_7 all4z all4 n7 A B C D E F G H I J K L M N=RL27_7 L27_7 L27_15 J27_24 all4z all4 n7 A B C D E F G H I J K L M N:=
 (congrArg (fun k=>WL27_7 k all4z all4 n7 A B C D E F G H I J K L M N) (funext fun e=>funext fun st=>round_eq Try.prog hint (b:=(nav (List.reverse (.lp::PaL27_7)) (bodyOf Try.f27))) (fn:=Try.f27) (nt:=89) (T:=(Ta27 VL27_7 VL27_15 VJ27_24)) [PaL27_7,PaL27_15,PaJ27_24] rfl PaL27_7 e st rfl rfl rfl)).trans (L27_7g VL27_7 VL27_15 VJ27_24 all4z all4 n7 A B C D E F G H I J K L M N)
noncomputable def RL27_15(L27_7:YL27_7)(L27_15:YL27_15)(J27_24:YJ27_24)(all4z:Bool)(all4:List T)(A:Bool)(B:List T)(C D E F G:Int)(H:Bool)(I:List T)(J:Bool)(K:List T)(L M N:Int)(O:Bool)(P:List T) :Option Res:=
(bif (decide (D<C)) then
 needC (decide (0≤D)) fun _=>getT B (D).toNat fun a=>asA a fun b=>consT b fun a c=>asI .i64 a fun b=>consT c fun a d=>asI .i64 a fun c=>consT d fun a f=>asI .i64 a fun d=>consT f fun a g=>asI .i64 a fun f=>consT g fun a h=>asI .i64 a fun g=>endT h <| needC (decide (0≤D)) fun _=>getT all4 (D).toNat fun a=>asB a fun h=>
(bif (!h) then
 L27_15 (all4z) (all4) (A) (B) (C) ((IntKind.i64.wrap (D+1))) (E) (F) (G) (H) (I) (J) (K) (L) (M) (N) (O) (P)
else
(bif (decide (b=10)) then
 needC (decide (0≤c) &&decide (c<(K.length:Int))) fun _=>getT K ((c).toNat) fun a=>asI .i64 a fun h=>J27_24 (all4z) (all4) (A) (B) (C) (D) (E) (F) (G) (H) (I) (J) (K) (L) (M) (N) (O) (P) (b) (h) (d) (f) (g)
else
(bif (decide (b=11)) then
 needC (decide (0≤f) &&decide (f<(K.length:Int))) fun _=>getT K ((f).toNat) fun a=>asI .i64 a fun h=>J27_24 (all4z) (all4) (A) (B) (C) (D) (E) (F) (G) (H) (I) (J) (K) (L) (M) (N) (O) (P) (b) (c) (d) (h) (g)
else
(bif (decide (b=12)) then
 needC (decide (0≤f) &&decide (f<(K.length:Int))) fun _=>getT K ((f).toNat) fun a=>asI .i64 a fun h=>J27_24 (all4z) (all4) (A) (B) (C) (D) (E) (F) (G) (H) (I) (J) (K) (L) (M) (N) (O) (P) (b) (c) (d) (h) (g)
else
 J27_24 (all4z) (all4) (A) (B) (C) (D) (E) (F) (G) (H) (I) (J) (K) (L) (M) (N) (O) (P) (b) (c) (d) (f) (g)))))
else
 some ((.tup [.t (.agg [.int .i64 L, .int .i64 M, .int .i64 N, .list 5 O P]), .t (.int .i64 0)]),⟨[],[]⟩))
theorem L27_15g(KL27_7 KL27_15 KJ27_24:Env→St→Option Res)(all4z:Bool)(all4:List T)(A:Bool)(B:List T)(C D E F G:Int)(H:Bool)(I:List T)(J:Bool)(K:List T)(L M N:Int)(O:Bool)(P:List T) :WL27_15 (fun e st=>gP 27 0 89 Try.f27 (Ta27 KL27_7 KL27_15 KJ27_24) (.lp::PaL27_15) e st) all4z all4 A B C D E F G H I J K L M N O P=RL27_15 (WL27_7 KL27_7) (WL27_15 KL27_15) (WJ27_24 KJ27_24) all4z all4 A B C D E F G H I J K L M N O P:=by kernel_rfl
theorem L27_15_eq(all4z:Bool)(all4:List T)(A:Bool)(B:List T)(C D E F G:Int)(H:Bool)(I:List T)(J:Bool)(K:List T)(L M N:Int)(O:Bool)(P:List T) :L27_15 all4z all4 A B C D E F G H I J K L M N O P=RL27_15 L27_7 L27_15 J27_24 all4z all4 A B C D E F G H I J K L M N O P:=
 (congrArg (fun k=>WL27_15 k all4z all4 A B C D E F G H I J K L M N O P) (funext fun e=>funext fun st=>round_eq Try.prog hint (b:=(nav (List.reverse (.lp::PaL27_15)) (bodyOf Try.f27))) (fn:=Try.f27) (nt:=89) (T:=(Ta27 VL27_7 VL27_15 VJ27_24)) [PaL27_7,PaL27_15,PaJ27_24] rfl PaL27_15 e st rfl rfl rfl)).trans (L27_15g VL27_7 VL27_15 VJ27_24 all4z all4 A B C D E F G H I J K L M N O P)
noncomputable def RJ27_24(L27_7:YL27_7)(L27_15:YL27_15)(J27_24:YJ27_24)(all4z:Bool)(all4:List T)(A:Bool)(B:List T)(C D E F G:Int)(H:Bool)(I:List T)(J:Bool)(K:List T)(L M N:Int)(O:Bool)(P:List T)(Q R S U V:Int) :Option Res:=needC (decide ((P.length+1)*(40+1)≤70368744177664) &&decide (40≤1048576)) fun _=>L27_15 (all4z) (all4) (A) (B) (C) ((IntKind.i64.wrap (D+1))) (E) (F) (G) (H) (I) (J) (K) (L) (M) (N) ((O || true)) ((P++([.agg [.int .i64 Q, .int .i64 R, .int .i64 S, .int .i64 U, .int .i64 V]]:List T)))
theorem J27_24g(KL27_7 KL27_15 KJ27_24:Env→St→Option Res)(all4z:Bool)(all4:List T)(A:Bool)(B:List T)(C D E F G:Int)(H:Bool)(I:List T)(J:Bool)(K:List T)(L M N:Int)(O:Bool)(P:List T)(Q R S U V:Int) :WJ27_24 (fun e st=>gP 27 0 89 Try.f27 (Ta27 KL27_7 KL27_15 KJ27_24) PaJ27_24 e st) all4z all4 A B C D E F G H I J K L M N O P Q R S U V=RJ27_24 (WL27_7 KL27_7) (WL27_15 KL27_15) (WJ27_24 KJ27_24) all4z all4 A B C D E F G H I J K L M N O P Q R S U V:=by kernel_rfl
theorem J27_24_eq(all4z:Bool)(all4:List T)(A:Bool)(B:List T)(C D E F G:Int)(H:Bool)(I:List T)(J:Bool)(K:List T)(L M N:Int)(O:Bool)(P:List T)(Q R S U V:Int) :J27_24 all4z all4 A B C D E F G H I J K L M N O P Q R S U V=RJ27_24 L27_7 L27_15 J27_24 all4z all4 A B C D E F G H I J K L M N O P Q R S U V:=
 (congrArg (fun k=>WJ27_24 k all4z all4 A B C D E F G H I J K L M N O P Q R S U V) (funext fun e=>funext fun st=>join_eq Try.prog hint (fn:=Try.f27) (nt:=89) (T:=(Ta27 VL27_7 VL27_15 VJ27_24)) [PaL27_7,PaL27_15,PaJ27_24] rfl PaJ27_24 e st rfl)).trans (J27_24g VL27_7 VL27_15 VJ27_24 all4z all4 A B C D E F G H I J K L M N O P Q R S U V)
noncomputable def R37(A B:Int) :Option Res:=some ((.t (.bool (decide (A≤B)))),⟨[(0, .var [.t (.int .i64 B)])],[500]⟩)
theorem eq37g(A B:Int) :gE 37 0 7 Try.f37 [] [.t (.int .i64 A), .ptr 0 0 0] ⟨[(0, .var [.t (.int .i64 B)])],[]⟩=R37 A B:=by kernel_rfl
theorem eq37(A B:Int) :vr 37 0 [.t (.int .i64 A), .ptr 0 0 0] ⟨[(0, .var [.t (.int .i64 B)])],[]⟩=R37 A B:=
 Eq.trans (call_eq Try.prog hint (fn:=Try.f37) (nt:=7) (T:=[]) [] rfl _ _ rfl rfl rfl rfl rfl) (eq37g A B)
noncomputable def R57v1(L57v1_2:YL57v1_2)(A:Bool)(B:List T)(C:Int) :Option Res:=L57v1_2 (A) (B) ((B.length:Int)) (0) (C)
theorem eq57v1g(KL57v1_2:Env→St→Option Res)(A:Bool)(B:List T)(C:Int) :gE 57 1 19 Try.f57 (Ta57v1 KL57v1_2) [.t (.list 1 A B), .fn 37 [] [.ptr 0 0 0]] ⟨[(0, .var [.t (.int .i64 C)])],[]⟩=R57v1 (WL57v1_2 KL57v1_2) A B C:=by kernel_rfl
theorem eq57v1(A:Bool)(B:List T)(C:Int) :vr 57 1 [.t (.list 1 A B), .fn 37 [] [.ptr 0 0 0]] ⟨[(0, .var [.t (.int .i64 C)])],[]⟩=R57v1 L57v1_2 A B C:=
 Eq.trans (call_eq Try.prog hint (fn:=Try.f57) (nt:=19) (T:=(Ta57v1 VL57v1_2)) [PaL57v1_2] rfl _ _ rfl rfl rfl rfl rfl) (eq57v1g VL57v1_2 A B C)
noncomputable def RL57v1_2(L57v1_2:YL57v1_2)(s0z:Bool)(s0:List T)(A B C:Int) :Option Res:=
(bif (decide (B<A)) then
 needC (decide (0≤B)) fun _=>getT s0 (B).toNat fun a=>asI .i64 a fun b=>callK (vr 37 0 [.t (.int .i64 b), .ptr 0 0 0] ⟨[(0, .var [.t (.int .i64 C)])],[]⟩) fun a c=>asT a fun b=>asB b fun a=>consB 0 c fun b d=>asVar b fun c=>consV c fun b f=>asT b fun c=>asI .i64 c fun b=>endV f <| endB d <|
(bif a then
 some ((.t (.int .i64 B)),⟨[(0, .var [.t (.int .i64 b)])],[500]⟩)
else
 L57v1_2 (s0z) (s0) (A) ((IntKind.i64.wrap (B+1))) (b))
else
 some ((.t (.int .i64 (-1))),⟨[(0, .var [.t (.int .i64 C)])],[500]⟩))
theorem L57v1_2g(KL57v1_2:Env→St→Option Res)(s0z:Bool)(s0:List T)(A B C:Int) :WL57v1_2 (fun e st=>gP 57 1 19 Try.f57 (Ta57v1 KL57v1_2) (.lp::PaL57v1_2) e st) s0z s0 A B C=RL57v1_2 (WL57v1_2 KL57v1_2) s0z s0 A B C:=by kernel_rfl
theorem L57v1_2_eq(s0z:Bool)(s0:List T)(A B C:Int) :L57v1_2 s0z s0 A B C=RL57v1_2 L57v1_2 s0z s0 A B C:=
 (congrArg (fun k=>WL57v1_2 k s0z s0 A B C) (funext fun e=>funext fun st=>round_eq Try.prog hint (b:=(nav (List.reverse (.lp::PaL57v1_2)) (bodyOf Try.f57))) (fn:=Try.f57) (nt:=19) (T:=(Ta57v1 VL57v1_2)) [PaL57v1_2] rfl PaL57v1_2 e st rfl rfl rfl)).trans (L57v1_2g VL57v1_2 s0z s0 A B C)
noncomputable def R36v1(A:Bool)(B:List T)(C:Int) :Option Res:=callK (vr 57 1 [.t (.list 1 A B), .fn 37 [] [.ptr 0 0 0]] ⟨[(0, .var [.t (.int .i64 C)])],[]⟩) fun a b=>asT a fun c=>asI .i64 c fun a=>consB 0 b fun c d=>asVar c fun b=>consV b fun c f=>asT c fun b=>asI .i64 b fun c=>endV f <| endB d <| some ((.t (.bool (decide (0≤a)))),⟨[(0, .var [.t (.int .i64 c)])],[500]⟩)
theorem eq36v1g(A:Bool)(B:List T)(C:Int) :gE 36 1 9 Try.f36 [] [.t (.list 1 A B), .fn 37 [] [.ptr 0 0 0]] ⟨[(0, .var [.t (.int .i64 C)])],[]⟩=R36v1 A B C:=by kernel_rfl
theorem eq36v1(A:Bool)(B:List T)(C:Int) :vr 36 1 [.t (.list 1 A B), .fn 37 [] [.ptr 0 0 0]] ⟨[(0, .var [.t (.int .i64 C)])],[]⟩=R36v1 A B C:=
 Eq.trans (call_eq Try.prog hint (fn:=Try.f36) (nt:=9) (T:=[]) [] rfl _ _ rfl rfl rfl rfl rfl) (eq36v1g A B C)
noncomputable def R35(A B C D E F:Int) :Option Res:=callK (vr 11 0 [.t (.agg [.int .i64 B, .int .i64 C, .int .i64 D, .int .i64 E, .int .i64 F]), .t (.int .i64 A)] ⟨[],[]⟩) fun a b=>asT a fun c=>asL 1 c fun a d=>endB b <| callK (vr 36 1 [.t (.list 1 a d), .fn 37 [] [.ptr 0 0 0]] ⟨[(0, .var [.t (.int .i64 A)])],[]⟩) fun b c=>asT b fun a=>asB a fun b=>consB 0 c fun a d=>asVar a fun c=>consV c fun a f=>asT a fun c=>asI .i64 c fun a=>endV f <| endB d <| some ((.t (.bool b)),⟨[],[]⟩)
theorem eq35g(A B C D E F:Int) :gE 35 0 10 Try.f35 [] [.t (.int .i64 A), .t (.agg [.int .i64 B, .int .i64 C, .int .i64 D, .int .i64 E, .int .i64 F])] ⟨[],[]⟩=R35 A B C D E F:=by kernel_rfl
theorem eq35(A B C D E F:Int) :vr 35 0 [.t (.int .i64 A), .t (.agg [.int .i64 B, .int .i64 C, .int .i64 D, .int .i64 E, .int .i64 F])] ⟨[],[]⟩=R35 A B C D E F:=
 Eq.trans (call_eq Try.prog hint (fn:=Try.f35) (nt:=10) (T:=[]) [] rfl _ _ rfl rfl rfl rfl rfl) (eq35g A B C D E F)
noncomputable def R34v1(L34v1_2:YL34v1_2)(A B C:Int)(D:Bool)(E:List T)(F:Bool)(G:List T)(H:Bool)(I:List T) :Option Res:=L34v1_2 (D) (E) ((E.length:Int)) (0) (A) (B) (C) (D) (E) (F) (G) (H) (I) (false) ([])
theorem eq34v1g(KL34v1_2:Env→St→Option Res)(A B C:Int)(D:Bool)(E:List T)(F:Bool)(G:List T)(H:Bool)(I:List T) :gE 34 1 37 Try.f34 (Ta34v1 KL34v1_2) [.ptr 0 0 0, .fn 35 [] []] ⟨[(0, .var [.t (.int .i64 A), .t (.int .i64 B), .t (.int .i64 C), .t (.list 5 D E), .buf 1, .buf 2]),(1, .arr true 2 F G),(2, .arr true 1 H I)],[]⟩=R34v1 (WL34v1_2 KL34v1_2) A B C D E F G H I:=by kernel_rfl
theorem eq34v1(A B C:Int)(D:Bool)(E:List T)(F:Bool)(G:List T)(H:Bool)(I:List T) :vr 34 1 [.ptr 0 0 0, .fn 35 [] []] ⟨[(0, .var [.t (.int .i64 A), .t (.int .i64 B), .t (.int .i64 C), .t (.list 5 D E), .buf 1, .buf 2]),(1, .arr true 2 F G),(2, .arr true 1 H I)],[]⟩=R34v1 L34v1_2 A B C D E F G H I:=
 Eq.trans (call_eq Try.prog hint (fn:=Try.f34) (nt:=37) (T:=(Ta34v1 VL34v1_2)) [PaL34v1_2] rfl _ _ rfl rfl rfl rfl rfl) (eq34v1g VL34v1_2 A B C D E F G H I)
noncomputable def RL34v1_2(L34v1_2:YL34v1_2)(A:Bool)(B:List T)(C D E F G:Int)(H:Bool)(I:List T)(J:Bool)(K:List T)(L:Bool)(M:List T)(N:Bool)(O:List T) :Option Res:=
(bif (decide (D<C)) then
 needC (decide (0≤D)) fun _=>getT B (D).toNat fun a=>asA a fun b=>consT b fun a c=>asI .i64 a fun b=>consT c fun a d=>asI .i64 a fun c=>consT d fun a f=>asI .i64 a fun d=>consT f fun a g=>asI .i64 a fun f=>consT g fun a h=>asI .i64 a fun g=>endT h <| needC (decide (0≤D) &&decide (D<(M.length:Int))) fun _=>getT M ((D).toNat) fun a=>asB a fun h=>
(bif h then
 callK (vr 35 0 [.t (.int .i64 D), .t (.agg [.int .i64 b, .int .i64 c, .int .i64 d, .int .i64 f, .int .i64 g])] ⟨[],[]⟩) fun a h=>asT a fun b=>asB b fun a=>endB h <|
(bif a then
 needC (decide ((O.length+1)*(8+1)≤70368744177664) &&decide (8≤1048576)) fun _=>L34v1_2 (A) (B) (C) ((IntKind.i64.wrap (D+1))) (E) (F) (G) (H) (I) (J) (K) (L) (M) ((N || true)) ((O++([.int .i64 D]:List T)))
else
 L34v1_2 (A) (B) (C) ((IntKind.i64.wrap (D+1))) (E) (F) (G) (H) (I) (J) (K) (L) (M) (N) (O))
else
 L34v1_2 (A) (B) (C) ((IntKind.i64.wrap (D+1))) (E) (F) (G) (H) (I) (J) (K) (L) (M) (N) (O))
else
 some ((.t (.list 1 N O)),(Z6 E F G H I J K L M)))
theorem L34v1_2g(KL34v1_2:Env→St→Option Res)(A:Bool)(B:List T)(C D E F G:Int)(H:Bool)(I:List T)(J:Bool)(K:List T)(L:Bool)(M:List T)(N:Bool)(O:List T) :WL34v1_2 (fun e st=>gP 34 1 37 Try.f34 (Ta34v1 KL34v1_2) (.lp::PaL34v1_2) e st) A B C D E F G H I J K L M N O=RL34v1_2 (WL34v1_2 KL34v1_2) A B C D E F G H I J K L M N O:=by kernel_rfl
theorem L34v1_2_eq(A:Bool)(B:List T)(C D E F G:Int)(H:Bool)(I:List T)(J:Bool)(K:List T)(L:Bool)(M:List T)(N:Bool)(O:List T) :L34v1_2 A B C D E F G H I J K L M N O=RL34v1_2 L34v1_2 A B C D E F G H I J K L M N O:=
 (congrArg (fun k=>WL34v1_2 k A B C D E F G H I J K L M N O) (funext fun e=>funext fun st=>round_eq Try.prog hint (b:=(nav (List.reverse (.lp::PaL34v1_2)) (bodyOf Try.f34))) (fn:=Try.f34) (nt:=37) (T:=(Ta34v1 VL34v1_2)) [PaL34v1_2] rfl PaL34v1_2 e st rfl rfl rfl)).trans (L34v1_2g VL34v1_2 A B C D E F G H I J K L M N O)
noncomputable def R10(A B C:Int)(D:Bool)(E:List T) :Option Res:=callK (vr 33 0 [.t (.agg [.int .i64 A, .int .i64 B, .int .i64 C, .list 5 D E])] ⟨[],[]⟩) fun a b=>
(bif fitsH (.tup [.nilp, .t (.one (.int .i64))]) [] a b then
 asTup a fun c=>consV c fun d f=>isNil d <| consV f fun c d=>asT c fun f=>asI .i64 f fun c=>endV d <| endB b <|
(bif (!decide (c=0)) then
 Z0 c
else
 callK (vr 34 1 [.con (.pointer none), .fn 35 [] []] ⟨[],[]⟩) fun c d=>asT c fun f=>asL 1 f fun c g=>consB 0 d fun f h=>asVar f fun d=>consV d fun f i=>asT f fun d=>asI .i64 d fun f=>consV i fun d f=>asT d fun i=>asI .i64 i fun d=>consV f fun d i=>asT d fun f=>asI .i64 f fun d=>consV i fun d f=>asT d fun i=>asL 5 i fun d j=>consV f fun d i=>isBuf 1 d <| consV i fun d f=>isBuf 2 d <| endV f <| consB 1 h fun d f=>asArr 2 d fun h i=>consB 2 f fun d h=>asArr 1 d fun f i=>endB h <| some ((.tup [.t (.list 1 c g), .t (.int .i64 0)]),⟨[],[]⟩))
else
 asTup a fun c=>consV c fun a d=>isPtr 500 0 0 a <| consV d fun a c=>asT a fun d=>asI .i64 d fun a=>endV c <| consB 500 b fun c d=>asVar c fun b=>consV b fun c f=>asT c fun b=>asI .i64 b fun c=>consV f fun b g=>asT b fun f=>asI .i64 f fun b=>consV g fun f h=>asT f fun g=>asI .i64 g fun f=>consV h fun g i=>asT g fun h=>asL 5 h fun g j=>consV i fun h k=>isBuf 501 h <| consV k fun h i=>isBuf 502 h <| endV i <| consB 501 d fun h i=>asArr 2 h fun d k=>consB 502 i fun h l=>asArr 1 h fun i m=>endB l <|
(bif (!decide (a=0)) then
 Z0 a
else
 callK (vr 34 1 [.ptr 0 0 0, .fn 35 [] []] ⟨[(0, .var [.t (.int .i64 c), .t (.int .i64 b), .t (.int .i64 f), .t (.list 5 g j), .buf 1, .buf 2]),(1, .arr true 2 d k),(2, .arr true 1 i m)],[]⟩) fun a h=>asT a fun b=>asL 1 b fun a c=>consB 0 h fun b d=>asVar b fun f=>consV f fun b g=>asT b fun f=>asI .i64 f fun b=>consV g fun b f=>asT b fun g=>asI .i64 g fun b=>consV f fun b g=>asT b fun f=>asI .i64 f fun b=>consV g fun b f=>asT b fun g=>asL 5 g fun b h=>consV f fun b g=>isBuf 1 b <| consV g fun b f=>isBuf 2 b <| endV f <| consB 1 d fun b f=>asArr 2 b fun d g=>
 consB 2 f fun b d=>asArr 1 b fun f g=>endB d <| some ((.tup [.t (.list 1 a c), .t (.int .i64 0)]),⟨[],[]⟩)))
theorem eq10g(A B C:Int)(D:Bool)(E:List T) :gE 10 0 16 Try.f10 [] [.t (.agg [.int .i64 A, .int .i64 B, .int .i64 C, .list 5 D E])] ⟨[],[]⟩=R10 A B C D E:=by kernel_rfl
theorem eq10(A B C:Int)(D:Bool)(E:List T) :vr 10 0 [.t (.agg [.int .i64 A, .int .i64 B, .int .i64 C, .list 5 D E])] ⟨[],[]⟩=R10 A B C D E:=
 Eq.trans (call_eq Try.prog hint (fn:=Try.f10) (nt:=16) (T:=[]) [] rfl _ _ rfl rfl rfl rfl rfl) (eq10g A B C D E)
noncomputable def R28(L28_6:YL28_6)(L28_10:YL28_10)(A B C:Int)(D:Bool)(E:List T) :Option Res:=callK (vr 23 0 [.t (.agg [.int .i64 A, .int .i64 B, .int .i64 C, .list 5 D E])] ⟨[],[]⟩) fun a b=>asTup a fun c=>consV c fun a d=>asT a fun c=>asL 1 c fun a f=>consV d fun c g=>asT c fun d=>asI .i64 d fun c=>endV g <| endB b <|
(bif (!decide (c=0)) then
 Z0 c
else
 L28_6 (a) (f) (D) (E) ((E.length:Int)) (0) (false) ([]))
theorem eq28g(KL28_6 KL28_10:Env→St→Option Res)(A B C:Int)(D:Bool)(E:List T) :gE 28 0 56 Try.f28 (Ta28 KL28_6 KL28_10) [.t (.agg [.int .i64 A, .int .i64 B, .int .i64 C, .list 5 D E])] ⟨[],[]⟩=R28 (WL28_6 KL28_6) (WL28_10 KL28_10) A B C D E:=by kernel_rfl
theorem eq28(A B C:Int)(D:Bool)(E:List T) :vr 28 0 [.t (.agg [.int .i64 A, .int .i64 B, .int .i64 C, .list 5 D E])] ⟨[],[]⟩=R28 L28_6 L28_10 A B C D E:=
 Eq.trans (call_eq Try.prog hint (fn:=Try.f28) (nt:=56) (T:=(Ta28 VL28_6 VL28_10)) [PaL28_6,PaL28_10] rfl _ _ rfl rfl rfl rfl rfl) (eq28g VL28_6 VL28_10 A B C D E)
noncomputable def RL28_6(L28_6:YL28_6)(L28_10:YL28_10)(all4z:Bool)(all4:List T)(A:Bool)(B:List T)(C D:Int)(E:Bool)(F:List T) :Option Res:=
(bif (decide (D<C)) then
 needC (decide (0≤D)) fun _=>getT B (D).toNat fun a=>asA a fun b=>consT b fun a c=>asI .i64 a fun b=>consT c fun a d=>asI .i64 a fun c=>consT d fun a f=>asI .i64 a fun d=>consT f fun a g=>asI .i64 a fun f=>consT g fun a h=>asI .i64 a fun g=>endT h <| callK (vr 51 0 [.t (.agg [.int .i64 b, .int .i64 c, .int .i64 d, .int .i64 f, .int .i64 g]), .t (.int .i64 D)] ⟨[],[]⟩) fun a h=>asT a fun b=>asL 1 b fun a c=>endB h <| L28_10 (all4z) (all4) (D) (false) (A) (B) (C) (D) (a) (c) ((c.length:Int)) (0) (E) (F)
else
 some ((.tup [.t (.list 1 E F), .t (.int .i64 0)]),⟨[],[]⟩))
theorem L28_6g(KL28_6 KL28_10:Env→St→Option Res)(all4z:Bool)(all4:List T)(A:Bool)(B:List T)(C D:Int)(E:Bool)(F:List T) :WL28_6 (fun e st=>gP 28 0 56 Try.f28 (Ta28 KL28_6 KL28_10) (.lp::PaL28_6) e st) all4z all4 A B C D E F=RL28_6 (WL28_6 KL28_6) (WL28_10 KL28_10) all4z all4 A B C D E F:=by kernel_rfl
theorem L28_6_eq(all4z:Bool)(all4:List T)(A:Bool)(B:List T)(C D:Int)(E:Bool)(F:List T) :L28_6 all4z all4 A B C D E F=RL28_6 L28_6 L28_10 all4z all4 A B C D E F:=
 (congrArg (fun k=>WL28_6 k all4z all4 A B C D E F) (funext fun e=>funext fun st=>round_eq Try.prog hint (b:=(nav (List.reverse (.lp::PaL28_6)) (bodyOf Try.f28))) (fn:=Try.f28) (nt:=56) (T:=(Ta28 VL28_6 VL28_10)) [PaL28_6,PaL28_10] rfl PaL28_6 e st rfl rfl rfl)).trans (L28_6g VL28_6 VL28_10 all4z all4 A B C D E F)
noncomputable def RL28_10(L28_6:YL28_6)(L28_10:YL28_10)(all4z:Bool)(all4:List T)(i7:Int)(back9 A:Bool)(B:List T)(C D:Int)(E:Bool)(F:List T)(G H:Int)(I:Bool)(J:List T) :Option Res:=
(bif (decide (H<G)) then
 needC (decide (0≤H)) fun _=>getT F (H).toNat fun a=>asI .i64 a fun b=>
(bif back9 then
 L28_10 (all4z) (all4) (i7) (true) (A) (B) (C) (D) (E) (F) (G) ((IntKind.i64.wrap (H+1))) (I) (J)
else
 needC (decide (0≤i7)) fun _=>getT all4 (i7).toNat fun a=>asB a fun c=>
(bif c then
 L28_10 (all4z) (all4) (i7) ((decide (b≤i7))) (A) (B) (C) (D) (E) (F) (G) ((IntKind.i64.wrap (H+1))) (I) (J)
else
 L28_10 (all4z) (all4) (i7) (false) (A) (B) (C) (D) (E) (F) (G) ((IntKind.i64.wrap (H+1))) (I) (J)))
else
(bif back9 then
 needC (decide ((J.length+1)*(8+1)≤70368744177664) &&decide (8≤1048576)) fun _=>L28_6 (all4z) (all4) (A) (B) (C) ((IntKind.i64.wrap (D+1))) ((I || true)) ((J++([.int .i64 i7]:List T)))
else
 L28_6 (all4z) (all4) (A) (B) (C) ((IntKind.i64.wrap (D+1))) (I) (J)))
theorem L28_10g(KL28_6 KL28_10:Env→St→Option Res)(all4z:Bool)(all4:List T)(i7:Int)(back9 A:Bool)(B:List T)(C D:Int)(E:Bool)(F:List T)(G H:Int)(I:Bool)(J:List T) :WL28_10 (fun e st=>gP 28 0 56 Try.f28 (Ta28 KL28_6 KL28_10) (.lp::PaL28_10) e st) all4z all4 i7 back9 A B C D E F G H I J=RL28_10 (WL28_6 KL28_6) (WL28_10 KL28_10) all4z all4 i7 back9 A B C D E F G H I J:=by kernel_rfl
theorem L28_10_eq(all4z:Bool)(all4:List T)(i7:Int)(back9 A:Bool)(B:List T)(C D:Int)(E:Bool)(F:List T)(G H:Int)(I:Bool)(J:List T) :L28_10 all4z all4 i7 back9 A B C D E F G H I J=RL28_10 L28_6 L28_10 all4z all4 i7 back9 A B C D E F G H I J:=
 (congrArg (fun k=>WL28_10 k all4z all4 i7 back9 A B C D E F G H I J) (funext fun e=>funext fun st=>round_eq Try.prog hint (b:=(nav (List.reverse (.lp::PaL28_10)) (bodyOf Try.f28))) (fn:=Try.f28) (nt:=56) (T:=(Ta28 VL28_6 VL28_10)) [PaL28_6,PaL28_10] rfl PaL28_10 e st rfl rfl rfl)).trans (L28_10g VL28_6 VL28_10 all4z all4 i7 back9 A B C D E F G H I J)
noncomputable def R29(L29_4:YL29_4)(A:Bool)(B:List T)(C:Bool)(D:List T) :Option Res:=
(bif (!decide ((B.length:Int)=(D.length:Int))) then
 some ((.t (.bool false)),⟨[],[]⟩)
else
 L29_4 (A) (B) (C) (D) ((B.length:Int)) (0))
theorem eq29g(KL29_4:Env→St→Option Res)(A:Bool)(B:List T)(C:Bool)(D:List T) :gE 29 0 26 Try.f29 (Ta29 KL29_4) [.t (.list 1 A B), .t (.list 1 C D)] ⟨[],[]⟩=R29 (WL29_4 KL29_4) A B C D:=by kernel_rfl
theorem eq29(A:Bool)(B:List T)(C:Bool)(D:List T) :vr 29 0 [.t (.list 1 A B), .t (.list 1 C D)] ⟨[],[]⟩=R29 L29_4 A B C D:=
 Eq.trans (call_eq Try.prog hint (fn:=Try.f29) (nt:=26) (T:=(Ta29 VL29_4)) [PaL29_4] rfl _ _ rfl rfl rfl rfl rfl) (eq29g VL29_4 A B C D)
noncomputable def RL29_4(L29_4:YL29_4)(A:Bool)(B:List T)(b1z:Bool)(b1:List T)(C D:Int) :Option Res:=
(bif (decide (D<C)) then
 needC (decide (0≤D)) fun _=>getT B (D).toNat fun a=>asB a fun b=>needC (decide (0≤D)) fun _=>getT b1 (D).toNat fun a=>asB a fun c=>
(bif (!(b==c)) then
 some ((.t (.bool false)),⟨[],[]⟩)
else
 L29_4 (A) (B) (b1z) (b1) (C) ((IntKind.i64.wrap (D+1))))
else
 some ((.t (.bool true)),⟨[],[]⟩))
theorem L29_4g(KL29_4:Env→St→Option Res)(A:Bool)(B:List T)(b1z:Bool)(b1:List T)(C D:Int) :WL29_4 (fun e st=>gP 29 0 26 Try.f29 (Ta29 KL29_4) (.lp::PaL29_4) e st) A B b1z b1 C D=RL29_4 (WL29_4 KL29_4) A B b1z b1 C D:=by kernel_rfl
theorem L29_4_eq(A:Bool)(B:List T)(b1z:Bool)(b1:List T)(C D:Int) :L29_4 A B b1z b1 C D=RL29_4 L29_4 A B b1z b1 C D:=
 (congrArg (fun k=>WL29_4 k A B b1z b1 C D) (funext fun e=>funext fun st=>round_eq Try.prog hint (b:=(nav (List.reverse (.lp::PaL29_4)) (bodyOf Try.f29))) (fn:=Try.f29) (nt:=26) (T:=(Ta29 VL29_4)) [PaL29_4] rfl PaL29_4 e st rfl rfl rfl)).trans (L29_4g VL29_4 A B b1z b1 C D)
noncomputable def R22(L22_4:YL22_4)(L22_9:YL22_9)(A:Bool)(B:List T)(C:Bool)(D:List T) :Option Res:=
(bif (!decide ((B.length:Int)=(D.length:Int))) then
 some ((.t (.bool false)),⟨[],[]⟩)
else
 L22_4 (A) (B) (C) (D) ((B.length:Int)) (0))
theorem eq22g(KL22_4 KL22_9:Env→St→Option Res)(A:Bool)(B:List T)(C:Bool)(D:List T) :gE 22 0 53 Try.f22 (Ta22 KL22_4 KL22_9) [.t (.list 1 A B), .t (.list 1 C D)] ⟨[],[]⟩=R22 (WL22_4 KL22_4) (WL22_9 KL22_9) A B C D:=by kernel_rfl
theorem eq22(A:Bool)(B:List T)(C:Bool)(D:List T) :vr 22 0 [.t (.list 1 A B), .t (.list 1 C D)] ⟨[],[]⟩=R22 L22_4 L22_9 A B C D:=
 Eq.trans (call_eq Try.prog hint (fn:=Try.f22) (nt:=53) (T:=(Ta22 VL22_4 VL22_9)) [PaL22_4,PaL22_9] rfl _ _ rfl rfl rfl rfl rfl) (eq22g VL22_4 VL22_9 A B C D)
noncomputable def RL22_4(L22_4:YL22_4)(L22_9:YL22_9)(A:Bool)(B:List T)(b1z:Bool)(b1:List T)(C D:Int) :Option Res:=
(bif (decide (D<C)) then
 needC (decide (0≤D)) fun _=>getT B (D).toNat fun a=>asL 1 a fun b c=>needC (decide (0≤D)) fun _=>getT b1 (D).toNat fun a=>asL 1 a fun b d=>
(bif (!decide ((c.length:Int)=(d.length:Int))) then
 some ((.t (.bool false)),⟨[],[]⟩)
else
 needC (decide (0≤D)) fun _=>getT B (D).toNat fun a=>asL 1 a fun b c=>L22_9 (A) (B) (b1z) (b1) (D) (C) (D) ((c.length:Int)) (0))
else
 some ((.t (.bool true)),⟨[],[]⟩))
theorem L22_4g(KL22_4 KL22_9:Env→St→Option Res)(A:Bool)(B:List T)(b1z:Bool)(b1:List T)(C D:Int) :WL22_4 (fun e st=>gP 22 0 53 Try.f22 (Ta22 KL22_4 KL22_9) (.lp::PaL22_4) e st) A B b1z b1 C D=RL22_4 (WL22_4 KL22_4) (WL22_9 KL22_9) A B b1z b1 C D:=by kernel_rfl
theorem L22_4_eq(A:Bool)(B:List T)(b1z:Bool)(b1:List T)(C D:Int) :L22_4 A B b1z b1 C D=RL22_4 L22_4 L22_9 A B b1z b1 C D:=
 (congrArg (fun k=>WL22_4 k A B b1z b1 C D) (funext fun e=>funext fun st=>round_eq Try.prog hint (b:=(nav (List.reverse (.lp::PaL22_4)) (bodyOf Try.f22))) (fn:=Try.f22) (nt:=53) (T:=(Ta22 VL22_4 VL22_9)) [PaL22_4,PaL22_9] rfl PaL22_4 e st rfl rfl rfl)).trans (L22_4g VL22_4 VL22_9 A B b1z b1 C D)
noncomputable def RL22_9(L22_4:YL22_4)(L22_9:YL22_9)(A:Bool)(B:List T)(b1z:Bool)(b1:List T)(i5 C D E F:Int) :Option Res:=
(bif (decide (F<E)) then
 needC (decide (0≤i5)) fun _=>getT B (i5).toNat fun a=>asL 1 a fun b c=>needC (decide (0≤F)) fun _=>getT c (F).toNat fun a=>asI .i64 a fun b=>needC (decide (0≤i5)) fun _=>getT b1 (i5).toNat fun a=>asL 1 a fun c d=>needC (decide (0≤F)) fun _=>getT d (F).toNat fun a=>asI .i64 a fun c=>
(bif (!decide (b=c)) then
 some ((.t (.bool false)),⟨[],[]⟩)
else
 L22_9 (A) (B) (b1z) (b1) (i5) (C) (D) (E) ((IntKind.i64.wrap (F+1))))
else
 L22_4 (A) (B) (b1z) (b1) (C) ((IntKind.i64.wrap (D+1))))
theorem L22_9g(KL22_4 KL22_9:Env→St→Option Res)(A:Bool)(B:List T)(b1z:Bool)(b1:List T)(i5 C D E F:Int) :WL22_9 (fun e st=>gP 22 0 53 Try.f22 (Ta22 KL22_4 KL22_9) (.lp::PaL22_9) e st) A B b1z b1 i5 C D E F=RL22_9 (WL22_4 KL22_4) (WL22_9 KL22_9) A B b1z b1 i5 C D E F:=by kernel_rfl
theorem L22_9_eq(A:Bool)(B:List T)(b1z:Bool)(b1:List T)(i5 C D E F:Int) :L22_9 A B b1z b1 i5 C D E F=RL22_9 L22_4 L22_9 A B b1z b1 i5 C D E F:=
 (congrArg (fun k=>WL22_9 k A B b1z b1 i5 C D E F) (funext fun e=>funext fun st=>round_eq Try.prog hint (b:=(nav (List.reverse (.lp::PaL22_9)) (bodyOf Try.f22))) (fn:=Try.f22) (nt:=53) (T:=(Ta22 VL22_4 VL22_9)) [PaL22_4,PaL22_9] rfl PaL22_9 e st rfl rfl rfl)).trans (L22_9g VL22_4 VL22_9 A B b1z b1 i5 C D E F)
noncomputable def R30(L30_7:YL30_7)(A B C:Int)(D:Bool)(E:List T) :Option Res:=callK (vr 26 0 [.t (.agg [.int .i64 A, .int .i64 B, .int .i64 C, .list 5 D E])] ⟨[],[]⟩) fun a b=>asTup a fun c=>consV c fun a d=>asT a fun c=>asL 1 c fun a f=>consV d fun a c=>asT a fun d=>asI .i64 d fun a=>endV c <| endB b <|
(bif (!decide (a=0)) then
 some ((.t (.int .i64 a)),⟨[],[]⟩)
else
(bif (decide (0<(f.length:Int))) then
 some ((.t (.int .i64 7)),⟨[],[]⟩)
else
 L30_7 (D) (E) ((E.length:Int)) (0) (A) (B) (C) (D) (E)))
theorem eq30g(KL30_7:Env→St→Option Res)(A B C:Int)(D:Bool)(E:List T) :gE 30 0 41 Try.f30 (Ta30 KL30_7) [.t (.agg [.int .i64 A, .int .i64 B, .int .i64 C, .list 5 D E])] ⟨[],[]⟩=R30 (WL30_7 KL30_7) A B C D E:=by kernel_rfl
theorem eq30(A B C:Int)(D:Bool)(E:List T) :vr 30 0 [.t (.agg [.int .i64 A, .int .i64 B, .int .i64 C, .list 5 D E])] ⟨[],[]⟩=R30 L30_7 A B C D E:=
 Eq.trans (call_eq Try.prog hint (fn:=Try.f30) (nt:=41) (T:=(Ta30 VL30_7)) [PaL30_7] rfl _ _ rfl rfl rfl rfl rfl) (eq30g VL30_7 A B C D E)
noncomputable def RL30_7(L30_7:YL30_7)(A:Bool)(B:List T)(C D E F G:Int)(H:Bool)(I:List T) :Option Res:=
(bif (decide (D<C)) then
 needC (decide (0≤D)) fun _=>getT B (D).toNat fun a=>asA a fun b=>consT b fun a c=>asI .i64 a fun b=>consT c fun a d=>asI .i64 a fun c=>consT d fun a f=>asI .i64 a fun d=>consT f fun a d=>asI .i64 a fun f=>consT d fun a f=>asI .i64 a fun d=>endT f <|
(bif (decide (b=7)) then
(bif (decide (c<G)) then
 some ((.t (.int .i64 3)),⟨[],[]⟩)
else
 L30_7 (A) (B) (C) ((IntKind.i64.wrap (D+1))) (E) (F) (G) (H) (I))
else
(bif (decide (b=9)) then
(bif (decide (c<G)) then
 some ((.t (.int .i64 3)),⟨[],[]⟩)
else
 L30_7 (A) (B) (C) ((IntKind.i64.wrap (D+1))) (E) (F) (G) (H) (I))
else
 L30_7 (A) (B) (C) ((IntKind.i64.wrap (D+1))) (E) (F) (G) (H) (I)))
else
 some ((.t (.int .i64 0)),⟨[],[]⟩))
theorem L30_7g(KL30_7:Env→St→Option Res)(A:Bool)(B:List T)(C D E F G:Int)(H:Bool)(I:List T) :WL30_7 (fun e st=>gP 30 0 41 Try.f30 (Ta30 KL30_7) (.lp::PaL30_7) e st) A B C D E F G H I=RL30_7 (WL30_7 KL30_7) A B C D E F G H I:=by kernel_rfl
theorem L30_7_eq(A:Bool)(B:List T)(C D E F G:Int)(H:Bool)(I:List T) :L30_7 A B C D E F G H I=RL30_7 L30_7 A B C D E F G H I:=
 (congrArg (fun k=>WL30_7 k A B C D E F G H I) (funext fun e=>funext fun st=>round_eq Try.prog hint (b:=(nav (List.reverse (.lp::PaL30_7)) (bodyOf Try.f30))) (fn:=Try.f30) (nt:=41) (T:=(Ta30 VL30_7)) [PaL30_7] rfl PaL30_7 e st rfl rfl rfl)).trans (L30_7g VL30_7 A B C D E F G H I)
noncomputable def R31(L31_4:YL31_4)(A B C:Int)(D:Bool)(E:List T)(F G H:Int)(I:Bool)(J:List T) :Option Res:=
(bif (!decide (A=F)) then
 some ((.t (.bool false)),⟨[],[]⟩)
else
(bif (!decide (B=G)) then
 some ((.t (.bool false)),⟨[],[]⟩)
else
(bif (!decide (C=H)) then
 some ((.t (.bool false)),⟨[],[]⟩)
else
(bif (!decide ((E.length:Int)=(J.length:Int))) then
 some ((.t (.bool false)),⟨[],[]⟩)
else
 L31_4 ((E.length:Int)) (0) (A) (B) (C) (D) (E) (F) (G) (H) (I) (J)))))
theorem eq31g(KL31_4:Env→St→Option Res)(A B C:Int)(D:Bool)(E:List T)(F G H:Int)(I:Bool)(J:List T) :gE 31 0 52 Try.f31 (Ta31 KL31_4) [.t (.agg [.int .i64 A, .int .i64 B, .int .i64 C, .list 5 D E]), .t (.agg [.int .i64 F, .int .i64 G, .int .i64 H, .list 5 I J])] ⟨[],[]⟩=R31 (WL31_4 KL31_4) A B C D E F G H I J:=by kernel_rfl
theorem eq31(A B C:Int)(D:Bool)(E:List T)(F G H:Int)(I:Bool)(J:List T) :vr 31 0 [.t (.agg [.int .i64 A, .int .i64 B, .int .i64 C, .list 5 D E]), .t (.agg [.int .i64 F, .int .i64 G, .int .i64 H, .list 5 I J])] ⟨[],[]⟩=R31 L31_4 A B C D E F G H I J:=
 Eq.trans (call_eq Try.prog hint (fn:=Try.f31) (nt:=52) (T:=(Ta31 VL31_4)) [PaL31_4] rfl _ _ rfl rfl rfl rfl rfl) (eq31g VL31_4 A B C D E F G H I J)
noncomputable def RL31_4(L31_4:YL31_4)(A B C D E:Int)(F:Bool)(G:List T)(H I J:Int)(K:Bool)(L:List T) :Option Res:=
(bif (decide (B<A)) then
 needC (decide (0≤B)) fun _=>getT G (B).toNat fun a=>asA a fun b=>consT b fun a c=>asI .i64 a fun b=>consT c fun a d=>asI .i64 a fun c=>consT d fun a f=>asI .i64 a fun d=>consT f fun a g=>asI .i64 a fun f=>consT g fun a h=>asI .i64 a fun g=>endT h <| needC (decide (0≤B)) fun _=>getT L (B).toNat fun a=>asA a fun h=>consT h fun a i=>asI .i64 a fun h=>consT i fun a j=>asI .i64 a fun i=>consT j fun a k=>asI .i64 a fun j=>consT k fun a l=>asI .i64 a fun k=>consT l fun a m=>asI .i64 a fun l=>endT m <|
(bif (!(decide (b=h) &&(decide (c=i) &&(decide (d=j) &&(decide (f=k) &&(decide (g=l) &&true)))))) then
 some ((.t (.bool false)),⟨[],[]⟩)
else
 L31_4 (A) ((IntKind.i64.wrap (B+1))) (C) (D) (E) (F) (G) (H) (I) (J) (K) (L))
else
 some ((.t (.bool true)),⟨[],[]⟩))
theorem L31_4g(KL31_4:Env→St→Option Res)(A B C D E:Int)(F:Bool)(G:List T)(H I J:Int)(K:Bool)(L:List T) :WL31_4 (fun e st=>gP 31 0 52 Try.f31 (Ta31 KL31_4) (.lp::PaL31_4) e st) A B C D E F G H I J K L=RL31_4 (WL31_4 KL31_4) A B C D E F G H I J K L:=by kernel_rfl
theorem L31_4_eq(A B C D E:Int)(F:Bool)(G:List T)(H I J:Int)(K:Bool)(L:List T) :L31_4 A B C D E F G H I J K L=RL31_4 L31_4 A B C D E F G H I J K L:=
 (congrArg (fun k=>WL31_4 k A B C D E F G H I J K L) (funext fun e=>funext fun st=>round_eq Try.prog hint (b:=(nav (List.reverse (.lp::PaL31_4)) (bodyOf Try.f31))) (fn:=Try.f31) (nt:=52) (T:=(Ta31 VL31_4)) [PaL31_4] rfl PaL31_4 e st rfl rfl rfl)).trans (L31_4g VL31_4 A B C D E F G H I J K L)
noncomputable def R7(L7_16:YL7_16)(A B C:Int)(D:Bool)(E:List T) :Option Res:=callK (vr 8 0 [] ⟨[],[]⟩) fun a b=>asT a fun c=>asB c fun a=>endB b <| callK (vr 9 0 [.t (.agg [.int .i64 A, .int .i64 B, .int .i64 C, .list 5 D E])] ⟨[],[]⟩) fun b c=>asT b fun d=>asB d fun b=>endB c <|
(bif (!b) then
 some ((.t (.bool a)),⟨[],[]⟩)
else
 needC (decide (E.length*(40+1)≤70368744177664) &&decide (40≤1048576)) fun _=>callK (vr 13 0 [.t (.agg [.int .i64 A, .int .i64 B, .int .i64 C, .list 5 D E])] ⟨[],[]⟩) fun b c=>asTup b fun d=>consV d fun b f=>asT b fun d=>asL 1 d fun b g=>consV f fun d h=>asT d fun f=>asI .i64 f fun d=>endV h <| endB c <| callK (vr 23 0 [.t (.agg [.int .i64 A, .int .i64 B, .int .i64 C, .list 5 D E])] ⟨[],[]⟩) fun c f=>asTup c fun h=>consV h fun c i=>asT c fun h=>asL 1 h fun c j=>consV i fun h k=>asT h fun i=>asI .i64 i fun h=>endV k <| endB f <| callK (vr 12 0 [.t (.agg [.int .i64 A, .int .i64 B, .int .i64 C, .list 5 D E])] ⟨[],[]⟩) fun f i=>
 asTup f fun k=>consV k fun f l=>asT f fun k=>asL 1 k fun f m=>consV l fun k n=>asT k fun l=>asI .i64 l fun k=>endV n <| endB i <| callK (vr 24 0 [.t (.agg [.int .i64 A, .int .i64 B, .int .i64 C, .list 5 D E])] ⟨[],[]⟩) fun i l=>asTup i fun n=>consV n fun i o=>asT i fun n=>asL 1 n fun i p=>consV o fun n q=>asT n fun o=>asI .i64 o fun n=>endV q <| endB l <| callK (vr 25 0 [.t (.agg [.int .i64 A, .int .i64 B, .int .i64 C, .list 5 D E])] ⟨[],[]⟩) fun l o=>asTup l fun q=>consV q fun l r=>asT l fun q=>asL 1 q fun l s=>consV r fun q t=>asT q fun r=>asI .i64 r fun q=>
 endV t <| endB o <| callK (vr 26 0 [.t (.agg [.int .i64 A, .int .i64 B, .int .i64 C, .list 5 D E])] ⟨[],[]⟩) fun o r=>asTup o fun t=>consV t fun o u=>asT o fun t=>asL 1 t fun o v=>consV u fun t w=>asT t fun u=>asI .i64 u fun t=>endV w <| endB r <| callK (vr 17 0 [.t (.agg [.int .i64 A, .int .i64 B, .int .i64 C, .list 5 D E])] ⟨[],[]⟩) fun r u=>asTup r fun w=>consV w fun r x=>asG r fun w=>consV w fun r y=>asT r fun w=>asI .i64 w fun r=>consV y fun w z=>asT w fun y=>asI .i64 y fun w=>consV z fun y a0=>asT y fun z=>asI .i64 z fun y=>consV a0 fun z a1=>
 isBuf 500 z <| endV a1 <| consV x fun z a0=>asT z fun x=>asI .i64 x fun z=>endV a0 <| consB 500 u fun x a0=>asArr 5 x fun u a1=>endB a0 <| callK (vr 27 0 [.t (.agg [.int .i64 A, .int .i64 B, .int .i64 C, .list 5 D E])] ⟨[],[]⟩) fun x a0=>asTup x fun a2=>consV a2 fun x a3=>asT x fun a2=>asA a2 fun x=>consT x fun a2 a4=>asI .i64 a2 fun x=>consT a4 fun a2 a5=>asI .i64 a2 fun a4=>consT a5 fun a2 a6=>asI .i64 a2 fun a5=>consT a6 fun a2 a7=>asL 5 a2 fun a6 a8=>endT a7 <| consV a3 fun a2 a7=>asT a2 fun a3=>asI .i64 a3 fun a2=>endV a7 <| endB a0 <| callK (vr 10 0 [.t (.agg [.int .i64 A, .int .i64 B, .int .i64 C, .list 5 D E])] ⟨[],[]⟩) fun a0 a3=>
 asTup a0 fun a7=>consV a7 fun a0 a9=>asT a0 fun a7=>asL 1 a7 fun a0 b0=>consV a9 fun a7 b1=>asT a7 fun a9=>asI .i64 a9 fun a7=>endV b1 <| endB a3 <| callK (vr 28 0 [.t (.agg [.int .i64 A, .int .i64 B, .int .i64 C, .list 5 D E])] ⟨[],[]⟩) fun a3 a9=>asTup a3 fun b1=>consV b1 fun a3 b2=>asT a3 fun b1=>asL 1 b1 fun a3 b3=>consV b2 fun b1 b4=>asT b1 fun b2=>asI .i64 b2 fun b1=>endV b4 <| endB a9 <| L7_16 (a) (b) (g) (d) (c) (j) (h) (f) (m) (k) (i) (p) (n) (l) (s) (q) (o) (v) (t) (z) (a2) (a0) (b0) (a7) (a3) (b3) (b1) ((a1.length:Int)) (0) (A) (B) (C) (D) (E) ((!E.isEmpty)) (E) (r) (w) (y) (u) (a1) (x) (a4) (a5) (a6) (a8))
theorem eq7g(KL7_16:Env→St→Option Res)(A B C:Int)(D:Bool)(E:List T) :gE 7 0 192 Try.f7 (Ta7 KL7_16) [.t (.agg [.int .i64 A, .int .i64 B, .int .i64 C, .list 5 D E])] ⟨[],[]⟩=R7 (WL7_16 KL7_16) A B C D E:=by kernel_rfl
theorem eq7(A B C:Int)(D:Bool)(E:List T) :vr 7 0 [.t (.agg [.int .i64 A, .int .i64 B, .int .i64 C, .list 5 D E])] ⟨[],[]⟩=R7 L7_16 A B C D E:=
 Eq.trans (call_eq Try.prog hint (fn:=Try.f7) (nt:=192) (T:=(Ta7 VL7_16)) [PaL7_16] rfl _ _ rfl rfl rfl rfl rfl) (eq7g VL7_16 A B C D E)
noncomputable def RL7_16(L7_16:YL7_16)(up3 A:Bool)(B:List T)(e6:Int)(b7z:Bool)(b7:List T)(f8:Int)(x9z:Bool)(x9:List T)(g10:Int)(y11z:Bool)(y11:List T)(h12:Int)(p13z:Bool)(p13:List T)(i14:Int)(q15z:Bool)(q15:List T)(j16 k18 l20:Int)(u21z:Bool)(u21:List T)(C:Int)(v23z:Bool)(v23:List T)(n24 D E F G H:Int)(I:Bool)(J:List T)(K:Bool)(L:List T)(M N O:Int)(P:Bool)(Q:List T)(R S U:Int)(V:Bool)(W:List T) :Option Res:=
(bif (decide (E<D)) then
(bif (decide (k18=0)) then
(bif (decide ((W.length:Int)≤E)) then
 some ((.t (.bool false)),⟨[],[]⟩)
else
 needC (decide (0≤E) &&decide (E<(Q.length:Int))) fun _=>getT Q ((E).toNat) fun a=>asA a fun b=>consT b fun a c=>asI .i64 a fun b=>consT c fun a d=>asI .i64 a fun c=>consT d fun a f=>asI .i64 a fun d=>consT f fun a g=>asI .i64 a fun f=>consT g fun a h=>asI .i64 a fun g=>endT h <| needC (decide (0≤E)) fun _=>getT W (E).toNat fun a=>asA a fun h=>consT h fun a i=>asI .i64 a fun h=>consT i fun a j=>asI .i64 a fun i=>consT j fun a k=>asI .i64 a fun j=>consT k fun a l=>asI .i64 a fun k=>consT l fun a m=>asI .i64 a fun l=>endT m <|
(bif (!(decide (b=h) &&(decide (c=i) &&(decide (d=j) &&(decide (f=k) &&(decide (g=l) &&true)))))) then
 some ((.t (.bool false)),⟨[],[]⟩)
else
 needC (decide (0≤E) &&decide (E<(Q.length:Int))) fun _=>needC (P &&true) fun _=>getT Q ((E).toNat) fun a=>needC (decide (0+1≤(T.cells a).length) &&Nat.ble 2 5) fun _=>L7_16 (up3) (A) (B) (e6) (b7z) (b7) (f8) (x9z) (x9) (g10) (y11z) (y11) (h12) (p13z) (p13) (i14) (q15z) (q15) (j16) (k18) (l20) (u21z) (u21) (C) (v23z) (v23) (n24) (D) ((IntKind.i64.wrap (E+1))) (F) (G) (H) (I) (J) (K) (L) (M) (N) (O) (P) ((Q.set ((E).toNat) (.agg (spliceT (T.cells a) 0 [.int .i64 (-1)])))) (R) (S) (U) (V) (W)))
else
 needC (decide (0≤E) &&decide (E<(Q.length:Int))) fun _=>needC (P &&true) fun _=>getT Q ((E).toNat) fun a=>needC (decide (0+1≤(T.cells a).length) &&Nat.ble 2 5) fun _=>L7_16 (up3) (A) (B) (e6) (b7z) (b7) (f8) (x9z) (x9) (g10) (y11z) (y11) (h12) (p13z) (p13) (i14) (q15z) (q15) (j16) (k18) (l20) (u21z) (u21) (C) (v23z) (v23) (n24) (D) ((IntKind.i64.wrap (E+1))) (F) (G) (H) (I) (J) (K) (L) (M) (N) (O) (P) ((Q.set ((E).toNat) (.agg (spliceT (T.cells a) 0 [.int .i64 (-1)])))) (R) (S) (U) (V) (W))
else
(bif up3 then
 callK (vr 29 0 [.t (.list 1 A B), .t (.list 1 b7z b7)] ⟨[],[]⟩) fun a b=>asT a fun c=>asB c fun a=>endB b <|
(bif a then
(bif (decide (e6=f8)) then
 callK (vr 22 0 [.t (.list 1 x9z x9), .t (.list 1 y11z y11)] ⟨[],[]⟩) fun a b=>asT a fun c=>asB c fun a=>endB b <|
(bif a then
(bif (decide (g10=h12)) then
 callK (vr 20 0 [.t (.list 1 p13z p13), .t (.list 1 q15z q15)] ⟨[],[]⟩) fun a b=>asT a fun c=>asB c fun a=>endB b <|
(bif a then
(bif (decide (i14=j16)) then
(bif (decide ((Q.length:Int)=(W.length:Int))) then
(bif (decide (k18=l20)) then
 callK (vr 20 0 [.t (.list 1 u21z u21), .t (.list 1 v23z v23)] ⟨[],[]⟩) fun a b=>asT a fun c=>asB c fun a=>endB b <|
(bif a then
(bif (decide (C=n24)) then
 callK (vr 14 0 [.t (.agg [.int .i64 F, .int .i64 G, .int .i64 H, .list 5 I J])] ⟨[],[]⟩) fun a b=>asT a fun c=>asI .i64 c fun a=>endB b <| callK (vr 30 0 [.t (.agg [.int .i64 F, .int .i64 G, .int .i64 H, .list 5 I J])] ⟨[],[]⟩) fun b c=>asT b fun d=>asI .i64 d fun b=>endB c <|
(bif (decide (a=b)) then
 callK (vr 31 0 [.t (.agg [.int .i64 F, .int .i64 G, .int .i64 H, .list 5 I J]), .t (.agg [.int .i64 F, .int .i64 G, .int .i64 H, .list 5 K L])] ⟨[],[]⟩) fun a b=>asT a fun c=>asB c fun a=>endB b <| some ((.t (.bool a)),⟨[],[]⟩)
else
 some ((.t (.bool false)),⟨[],[]⟩))
else
 some ((.t (.bool false)),⟨[],[]⟩))
else
 some ((.t (.bool false)),⟨[],[]⟩))
else
 some ((.t (.bool false)),⟨[],[]⟩))
else
 some ((.t (.bool false)),⟨[],[]⟩))
else
 some ((.t (.bool false)),⟨[],[]⟩))
else
 some ((.t (.bool false)),⟨[],[]⟩))
else
 some ((.t (.bool false)),⟨[],[]⟩))
else
 some ((.t (.bool false)),⟨[],[]⟩))
else
 some ((.t (.bool false)),⟨[],[]⟩))
else
 some ((.t (.bool false)),⟨[],[]⟩))
else
 some ((.t (.bool false)),⟨[],[]⟩)))
theorem L7_16g(KL7_16:Env→St→Option Res)(up3 A:Bool)(B:List T)(e6:Int)(b7z:Bool)(b7:List T)(f8:Int)(x9z:Bool)(x9:List T)(g10:Int)(y11z:Bool)(y11:List T)(h12:Int)(p13z:Bool)(p13:List T)(i14:Int)(q15z:Bool)(q15:List T)(j16 k18 l20:Int)(u21z:Bool)(u21:List T)(C:Int)(v23z:Bool)(v23:List T)(n24 D E F G H:Int)(I:Bool)(J:List T)(K:Bool)(L:List T)(M N O:Int)(P:Bool)(Q:List T)(R S U:Int)(V:Bool)(W:List T) :WL7_16 (fun e st=>gP 7 0 192 Try.f7 (Ta7 KL7_16) (.lp::PaL7_16) e st) up3 A B e6 b7z b7 f8 x9z x9 g10 y11z y11 h12 p13z p13 i14 q15z q15 j16 k18 l20 u21z u21 C v23z v23 n24 D E F G H I J K L M N O P Q R S U V W=RL7_16 (WL7_16 KL7_16) up3 A B e6 b7z b7 f8 x9z x9 g10 y11z y11 h12 p13z p13 i14 q15z q15 j16 k18 l20 u21z u21 C v23z v23 n24 D E F G H I J K L M N O P Q R S U V W:=by kernel_rfl
theorem L7_16_eq(up3 A:Bool)(B:List T)(e6:Int)(b7z:Bool)(b7:List T)(f8:Int)(x9z:Bool)(x9:List T)(g10:Int)(y11z:Bool)(y11:List T)(h12:Int)(p13z:Bool)(p13:List T)(i14:Int)(q15z:Bool)(q15:List T)(j16 k18 l20:Int)(u21z:Bool)(u21:List T)(C:Int)(v23z:Bool)(v23:List T)(n24 D E F G H:Int)(I:Bool)(J:List T)(K:Bool)(L:List T)(M N O:Int)(P:Bool)(Q:List T)(R S U:Int)(V:Bool)(W:List T) :L7_16 up3 A B e6 b7z b7 f8 x9z x9 g10 y11z y11 h12 p13z p13 i14 q15z q15 j16 k18 l20 u21z u21 C v23z v23 n24 D E F G H I J K L M N O P Q R S U V W=RL7_16 L7_16 up3 A B e6 b7z b7 f8 x9z x9 g10 y11z y11 h12 p13z p13 i14 q15z q15 j16 k18 l20 u21z u21 C v23z v23 n24 D E F G H I J K L M N O P Q R S U V W:=
 (congrArg (fun k=>WL7_16 k up3 A B e6 b7z b7 f8 x9z x9 g10 y11z y11 h12 p13z p13 i14 q15z q15 j16 k18 l20 u21z u21 C v23z v23 n24 D E F G H I J K L M N O P Q R S U V W) (funext fun e=>funext fun st=>round_eq Try.prog hint (b:=(nav (List.reverse (.lp::PaL7_16)) (bodyOf Try.f7))) (fn:=Try.f7) (nt:=192) (T:=(Ta7 VL7_16)) [PaL7_16] rfl PaL7_16 e st rfl rfl rfl)).trans (L7_16g VL7_16 up3 A B e6 b7z b7 f8 x9z x9 g10 y11z y11 h12 p13z p13 i14 q15z q15 j16 k18 l20 u21z u21 C v23z v23 n24 D E F G H I J K L M N O P Q R S U V W)
end Go.Proofs.Ytgkdkjjohknfpaa.VM
