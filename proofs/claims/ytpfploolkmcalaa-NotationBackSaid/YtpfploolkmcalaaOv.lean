/- Equality of structs and arrays; what is not gone through. Conditions: none. -/
import Derived.Test.YtpfploolkmcalaaQ
import Derived.Test.YtpfploolkmcalaaVmD
import Derived.Laws.StructEq
import Derived.ChangeKeysEq
import Derived.WalkKit
import Derived.Lib.Strings
import Derived.Lib.Bytealg
import Derived.BigCall
import Derived.Test.YtpfploolkmcalaaJn
set_option linter.all false
namespace Go.Proofs.Ytpfploolkmcalaa.VM
set_option maxRecDepth 100000
open Go AM Go.RowKit
set_option maxHeartbeats 400000 in
theorem index_calls(s:ByteArray)(c:Int)(w:World) :
  Calls Try.prog 104 #[.string s, .int .u8 c] w fun e w'=>e= .returned (.int .i64 (Lib.indexByte s.data.toList c.toNat.toUInt8))∧w'=w:=by
 go_enter Try.func104,Try.ntmps104
 go_wp2
 rw [run_callFunc_extern Try.func117 (by kernel_rfl) (by kernel_rfl) (by kernel_rfl) (e:=Extern.BytealgIndexByte.indexByte) (by kernel_rfl),Lib.run_indexByteString]
 simp only [Result.andThen]
 rw [Oper.upon_value]
 go_wp2
 go_ret
 exact ⟨rfl,rfl⟩
noncomputable def ovRun(c:FuncId→List Value→Hp→Option (Value×Hp))(f:FuncId)(vs:List Value)(h:Hp) :Option Value:=bif f==104 then ovIndexA vs else bif f==46 then joinA c 96 vs h else none
theorem ovRun_mono :∀c c':FuncId→List Value→Hp→Option (Value×Hp),(∀g vs h r,c g vs h=some r→c' g vs h=some r)→∀f vs h v,ovRun c f vs h=some v→ovRun c' f vs h=some v:=by
 intro c c' hc f vs h v hv
 unfold ovRun at hv ⊢
 cases h104:f==104 <;>rw [h104] at hv <;>simp only [cond_true,cond_false] at hv ⊢
 rotate_left
 ·exact hv
 cases h46:f==46 <;>rw [h46] at hv <;>simp only [cond_true,cond_false] at hv ⊢
 rotate_left
 ·exact joinA_mono 96 hc vs h v hv
 cases hv
noncomputable def ovA :AM.Hint:={eqt:=fun _=>none,keep:=fun _ _=>none,isOv:=fun f=>f==104 || f==46,ov:=ovRun,mono:=ovRun_mono}
theorem ov_ok :OvOK Try.prog (amHint hint ovA):=by
 intro call f vs h v ho hv
 cases h104:f==104
 rotate_left
 ·obtain rfl:f=104:=by simpa using h104
  replace hv:ovIndexA vs=some v:=hv
  unfold ovIndexA at hv
  split at hv
  ·rename_i s c
   cases hv
   refine ⟨⟨Try.f104,_,Try.func104,rfl,by kernel_rfl⟩,fun _ B W ρ w vs' _ hr=> ?_⟩
   obtain ⟨l⟩:=vs'
   have hl:l=[.string s, .int .u8 c]:=by
    cases hr with
    | cons h1 h2=>
     cases h2 with
     | cons h3 h4=>
      cases h4
      cases h1
      cases h3
      rfl
   subst hl
   refine (index_calls s c w).mono ?_
   rintro e w' ⟨rfl,rfl⟩
   exact ⟨Below.refl _ _,_,rfl, .int _ _⟩
  ·cases hv
 cases h46:f==46
 rotate_left
 ·obtain rfl:f=46:=by simpa using h46
  replace hv:joinA call 96 vs h=some v:=hv
  exact ⟨⟨Try.f46,_,Try.func46,rfl,by kernel_rfl⟩,fun hc B W ρ w vs' s hr=>joinA_ok hv hc s hr⟩
 have ho:(f==104 || f==46)=true:=ho
 rw [h104,h46] at ho
 cases ho
theorem ov_v :OvV Try.prog hint (amHint hint ovA):=by
 refine ⟨fun f hf=> ?_,fun k call f vs v ho hv hc F N G h us s hG hr=> ?_⟩
 ·show (f==104 || f==46)=false
  cases h104:f==104
  rotate_left
  ·obtain rfl:f=104:=by simpa using h104
   revert hf
   show (true=false)→_
   intro hf; cases hf
  cases h46:f==46
  rotate_left
  ·obtain rfl:f=46:=by simpa using h46
   revert hf
   show (true=false)→_
   intro hf; cases hf
  rfl
 ·skip
  cases h104:f==104
  rotate_left
  ·obtain rfl:f=104:=by simpa using h104
   replace hv:ovIndex vs=some v:=hv
   unfold ovIndex at hv
   split at hv
   ·rename_i sb cb
    cases hv
    cases hr with
    | cons h1 h2=>
     cases h2 with
     | cons h3 h4=>
      cases h4
      cases vr_t h1 with
      | one e1=>
       cases e1
       cases vr_t h3 with
       | one e2=>
        cases e2
        exact ⟨F,G,_,h,aN_ov rfl rfl,ov_plain s, .t (.int _ _)⟩
   ·cases hv
  cases h46:f==46
  rotate_left
  ·obtain rfl:f=46:=by simpa using h46
   replace hv:joinV call 96 vs=some v:=hv
   obtain ⟨u,h1,h2⟩:=join_v (N:=N) hv hc hr
   exact ⟨F,G,u,h,aN_ov rfl h1,ov_plain s,h2⟩
  have ho:(look1 ovSet f).isSome=true:=ho
  unfold ovSet at ho
  unfold look1 at ho
  have g46:(46==f)=false:=by
   cases hh:46==f
   ·rfl
   ·have:46=f:=by simpa using hh
    subst this
    cases h46
  rw [g46] at ho
  simp only [cond_false] at ho
  unfold look1 at ho
  have g104:(104==f)=false:=by
   cases hh:104==f
   ·rfl
   ·have:104=f:=by simpa using hh
    subst this
    cases h104
  rw [g104] at ho
  simp only [cond_false] at ho
  unfold look1 at ho
  cases ho
theorem eq_t103(xs ys:Array Value)(w:World)(b:Bool)(hx:shapeB [.int .i64 0, .string ByteArray.empty, .int .i64 0] xs.toList=true)(hy:shapeB [.int .i64 0, .string ByteArray.empty, .int .i64 0] ys.toList=true)(hb:eqCells xs.toList ys.toList=some b) :(Op.equal 103 (.agg xs) (.agg ys)).run Try.prog w= .ok b w:=by
 obtain ⟨x0,xr0,xe0,xh0⟩:=shape_int hx
 obtain ⟨x1,xr1,xe1,xh1⟩:=shape_str xh0
 obtain ⟨x2,xr2,xe2,xh2⟩:=shape_int xh1
 have xz:=shape_nil xh2
 subst xz
 subst xe2
 subst xe1
 obtain ⟨y0,yr0,ye0,yh0⟩:=shape_int hy
 obtain ⟨y1,yr1,ye1,yh1⟩:=shape_str yh0
 obtain ⟨y2,yr2,ye2,yh2⟩:=shape_int yh1
 have yz:=shape_nil yh2
 subst yz
 subst ye2
 subst ye1
 obtain ⟨xs⟩:=xs
 obtain ⟨ys⟩:=ys
 simp only at xe0 ye0
 subst xe0 ye0
 have hb':b=(decide (x0=y0) &&(decide (x1=y1) &&(decide (x2=y2) &&true))):=by
  simp [eqCells,eqCell] at hb
  simp [hb.symm]
 subst hb'
 show (Op.equalIn 10000 103 _ _).run Try.prog w=_
 have hS:Try.prog.underlying 103=some (.struct (Try.prog.fieldsOf 103)):=by kernel_rfl
 have hp:Try.prog.stoodInHeld 103=false:=by kernel_rfl
 rw [show (10000:Nat)=9999+1 from rfl,run_equalIn_agg w 9999 103 _ _ hS hp]
 simp only [Program.fieldsOf,Try.underlying103]
 have hs1:=bytes_beq x1 y1
 go_simp
 by_cases h0:x0=y0 <;>by_cases h1:x1=y1 <;>by_cases h2:x2=y2 <;>simp [h0,h1,h2]
theorem eq_ok :EqOK Try.prog hint.eqt:=by
 intro t zs h
 have h:look1 eqtTab t=some zs:=h
 unfold eqtTab at h
 unfold look1 at h
 cases hf103:(103:Nat)==t <;>rw [hf103] at h <;>simp only [cond_true,cond_false] at h
 rotate_left
 ·cases h
  obtain rfl:103=t:=by simpa using hf103
  exact ⟨by kernel_rfl,fun xs ys w b hx hy hb=>eq_t103 xs ys w b hx hy hb⟩
 cases h
end Go.Proofs.Ytpfploolkmcalaa.VM
