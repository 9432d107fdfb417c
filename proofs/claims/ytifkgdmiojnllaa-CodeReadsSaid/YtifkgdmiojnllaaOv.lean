/- Equality of structs and arrays; what is not gone through. Conditions: none. -/
import Derived.Test.YtifkgdmiojnllaaQ
import Derived.Test.YtifkgdmiojnllaaVmD
import Derived.Laws.StructEq
import Derived.ChangeKeysEq
import Derived.WalkKit
import Derived.Lib.Strings
import Derived.Lib.Bytealg
import Derived.BigCall
set_option linter.all false
namespace Go.Proofs.Ytifkgdmiojnllaa.VM
open Go AM Go.RowKit
set_option maxHeartbeats 400000 in
theorem index_calls(s:ByteArray)(c:Int)(w:World) :
  Calls Try.prog 75 #[.string s, .int .u8 c] w fun e w'=>e= .returned (.int .i64 (Lib.indexByte s.data.toList c.toNat.toUInt8))∧w'=w:=by
 go_enter Try.func75,Try.ntmps75
 go_wp2
 rw [run_callFunc_extern Try.func84 (by kernel_rfl) (by kernel_rfl) (by kernel_rfl) (e:=Extern.BytealgIndexByte.indexByte) (by kernel_rfl),Lib.run_indexByteString]
 simp only [Result.andThen]
 rw [Oper.upon_value]
 go_wp2
 go_ret
 exact ⟨rfl,rfl⟩
theorem aN_ov{P:Program}{HA:AM.Hint}{k f:Nat}{us:List Value}{h:Hp}{u:Value}(ho:HA.isOv f=true)(hv:HA.ov (aN P HA k) f us h=some u) :aN P HA (k+1) f us h=some (u,h):=by
 unfold aN
 rw [ho,hv]
 rfl
noncomputable def ovRun(c:FuncId→List Value→Hp→Option (Value×Hp))(f:FuncId)(vs:List Value)(h:Hp) :Option Value:=bif f==75 then ovIndexA vs else none
theorem ovRun_mono :∀c c':FuncId→List Value→Hp→Option (Value×Hp),(∀g vs h r,c g vs h=some r→c' g vs h=some r)→∀f vs h v,ovRun c f vs h=some v→ovRun c' f vs h=some v:=by
 intro c c' hc f vs h v hv
 unfold ovRun at hv ⊢
 cases h75:f==75 <;>rw [h75] at hv <;>simp only [cond_true,cond_false] at hv ⊢
 rotate_left
 ·exact hv
 cases hv
noncomputable def ovA :AM.Hint:={eqt:=fun _=>none,keep:=fun _ _=>none,isOv:=fun f=>f==75,ov:=ovRun,mono:=ovRun_mono}
theorem ov_ok :OvOK Try.prog (amHint hint ovA):=by
 intro call f vs h v ho hv
 cases h75:f==75
 rotate_left
 ·obtain rfl:f=75:=by simpa using h75
  replace hv:ovIndexA vs=some v:=hv
  unfold ovIndexA at hv
  split at hv
  ·rename_i s c
   cases hv
   refine ⟨⟨Try.f75,_,Try.func75,rfl,by kernel_rfl⟩,fun _ B W ρ w vs' _ hr=> ?_⟩
   obtain ⟨l⟩:=vs'
   have hl:l=[.string s, .int .u8 c]:=by
    cases hr with
    | cons h1 h2=>
     cases h2 with
     | cons h3 h4=>
      cases h4
      cases h1
      cases h3
      rfl
   subst hl
   refine (index_calls s c w).mono ?_
   rintro e w' ⟨rfl,rfl⟩
   exact ⟨Below.refl _ _,_,rfl, .int _ _⟩
  ·cases hv
 have ho:(f==75)=true:=ho
 rw [h75] at ho
 cases ho
theorem ov_v :OvV Try.prog hint (amHint hint ovA):=by
 refine ⟨fun f hf=> ?_,fun k call f vs v ho hv hc F N G h us s hG hr=> ?_⟩
 ·show (f==75)=false
  cases h75:f==75
  rotate_left
  ·obtain rfl:f=75:=by simpa using h75
   revert hf
   show (true=false)→_
   intro hf; cases hf
  rfl
 ·skip
  cases h75:f==75
  rotate_left
  ·obtain rfl:f=75:=by simpa using h75
   replace hv:ovIndex vs=some v:=hv
   unfold ovIndex at hv
   split at hv
   ·rename_i sb cb
    cases hv
    cases hr with
    | cons h1 h2=>
     cases h2 with
     | cons h3 h4=>
      cases h4
      cases vr_t h1 with
      | one e1=>
       cases e1
       cases vr_t h3 with
       | one e2=>
        cases e2
        exact ⟨F,G,_,h,aN_ov rfl rfl,ov_plain s, .t (.int _ _)⟩
   ·cases hv
  have ho:(look1 ovSet f).isSome=true:=ho
  unfold ovSet at ho
  unfold look1 at ho
  have g75:(75==f)=false:=by
   cases hh:75==f
   ·rfl
   ·have:75=f:=by simpa using hh
    subst this
    cases h75
  rw [g75] at ho
  simp only [cond_false] at ho
  unfold look1 at ho
  cases ho
theorem eq_t34(xs ys:Array Value)(w:World)(b:Bool)(hx:shapeB [.int .i64 0, .int .i64 0, .int .i64 0, .int .i64 0, .int .i64 0] xs.toList=true)(hy:shapeB [.int .i64 0, .int .i64 0, .int .i64 0, .int .i64 0, .int .i64 0] ys.toList=true)(hb:eqCells xs.toList ys.toList=some b) :(Op.equal 34 (.agg xs) (.agg ys)).run Try.prog w= .ok b w:=by
 obtain ⟨x0,xr0,xe0,xh0⟩:=shape_int hx
 obtain ⟨x1,xr1,xe1,xh1⟩:=shape_int xh0
 obtain ⟨x2,xr2,xe2,xh2⟩:=shape_int xh1
 obtain ⟨x3,xr3,xe3,xh3⟩:=shape_int xh2
 obtain ⟨x4,xr4,xe4,xh4⟩:=shape_int xh3
 have xz:=shape_nil xh4
 subst xz
 subst xe4
 subst xe3
 subst xe2
 subst xe1
 obtain ⟨y0,yr0,ye0,yh0⟩:=shape_int hy
 obtain ⟨y1,yr1,ye1,yh1⟩:=shape_int yh0
 obtain ⟨y2,yr2,ye2,yh2⟩:=shape_int yh1
 obtain ⟨y3,yr3,ye3,yh3⟩:=shape_int yh2
 obtain ⟨y4,yr4,ye4,yh4⟩:=shape_int yh3
 have yz:=shape_nil yh4
 subst yz
 subst ye4
 subst ye3
 subst ye2
 subst ye1
 obtain ⟨xs⟩:=xs
 obtain ⟨ys⟩:=ys
 simp only at xe0 ye0
 subst xe0 ye0
 have hb':b=(decide (x0=y0) &&(decide (x1=y1) &&(decide (x2=y2) &&(decide (x3=y3) &&(decide (x4=y4) &&true))))):=by
  simp [eqCells,eqCell] at hb
  simp [hb.symm]
 subst hb'
 show (Op.equalIn 10000 34 _ _).run Try.prog w=_
 have hS:Try.prog.underlying 34=some (.struct (Try.prog.fieldsOf 34)):=by kernel_rfl
 have hp:Try.prog.stoodInHeld 34=false:=by kernel_rfl
 rw [show (10000:Nat)=9999+1 from rfl,run_equalIn_agg w 9999 34 _ _ hS hp]
 simp only [Program.fieldsOf,Try.underlying34]
 go_simp
 by_cases h0:x0=y0 <;>by_cases h1:x1=y1 <;>by_cases h2:x2=y2 <;>by_cases h3:x3=y3 <;>by_cases h4:x4=y4 <;>simp [h0,h1,h2,h3,h4]
theorem eq_ok :EqOK Try.prog hint.eqt:=by
 intro t zs h
 have h:look1 eqtTab t=some zs:=h
 unfold eqtTab at h
 unfold look1 at h
 cases hf34:(34:Nat)==t <;>rw [hf34] at h <;>simp only [cond_true,cond_false] at h
 rotate_left
 ·cases h
  obtain rfl:34=t:=by simpa using hf34
  exact ⟨by kernel_rfl,fun xs ys w b hx hy hb=>eq_t34 xs ys w b hx hy hb⟩
 cases h
end Go.Proofs.Ytifkgdmiojnllaa.VM
