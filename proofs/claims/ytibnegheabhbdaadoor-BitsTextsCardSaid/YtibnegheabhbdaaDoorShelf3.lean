/- The shelf's contracts that this seat calls beside the first ones. -/
import Derived.Shelf.Unicode.CaseLaid
import Derived.Lib.LaidCaseMet
import Derived.Test.YtibnegheabhbdaaDoorShelf2
namespace Go.Proofs
open Go.Shelf
def Tryd.lays204_ren : Go.Shelf.Ren := ⟨fun | 204 => 79 | 262 => 102 | 313 => 118 | 274 => 126 | 275 => 127 | n => n, fun | 21 => 21 | 4 => 4 | 3 => 3 | 162 => 146 | 203 => 144 | 160 => 155 | 46 => 57 | 0 => 0 | 208 => 164 | 51 => 111 | 206 => 162 | n => n, fun | 13 => 4 | n => n⟩
theorem Tryd.lays204 : Go.Proofs.Lays.n204 Tryd.prog Tryd.lays204_ren := {
  mixed := by kernel_rfl
  f204 := Tryd.func79.trans (congrArg some (by kernel_rfl))
  f262 := Tryd.func102.trans (congrArg some (by kernel_rfl))
  f274 := Tryd.func126.trans (congrArg some (by kernel_rfl))
  f275 := Tryd.func127.trans (congrArg some (by kernel_rfl))
  f313 := Tryd.func118.trans (congrArg some (by kernel_rfl))
  t0 := Tryd.underlying0
  a0 := Tryd.isAgg0
  z0 := Tryd.sizeOf0
  v0 := Tryd.zeroValue0
  t3 := Tryd.underlying3
  a3 := Tryd.isAgg3
  z3 := Tryd.sizeOf3
  v3 := Tryd.zeroValue3
  t4 := Tryd.underlying4
  a4 := Tryd.isAgg4
  z4 := Tryd.sizeOf4
  v4 := Tryd.zeroValue4
  t21 := Tryd.underlying21
  a21 := Tryd.isAgg21
  z21 := Tryd.sizeOf21
  v21 := Tryd.zeroValue21
  t46 := Tryd.underlying57
  a46 := Tryd.isAgg57
  z46 := Tryd.sizeOf57
  v46 := Tryd.zeroValue57
  t51 := Tryd.underlying111
  a51 := Tryd.isAgg111
  z51 := Tryd.sizeOf111
  v51 := Tryd.zeroValue111
  t160 := Tryd.underlying155
  a160 := Tryd.isAgg155
  z160 := Tryd.sizeOf155
  v160 := Tryd.zeroValue155
  t162 := Tryd.underlying146
  a162 := Tryd.isAgg146
  z162 := Tryd.sizeOf146
  v162 := Tryd.zeroValue146
  t203 := Tryd.underlying144
  a203 := Tryd.isAgg144
  z203 := Tryd.sizeOf144
  v203 := Tryd.zeroValue144
  t206 := Tryd.underlying162
  a206 := Tryd.isAgg162
  z206 := Tryd.sizeOf162
  v206 := Tryd.zeroValue162
  t208 := Tryd.underlying164
  a208 := Tryd.isAgg164
  z208 := Tryd.sizeOf164
  v208 := Tryd.zeroValue164
  g13 := by kernel_rfl }
open Go.RowKit Go.Lib in
theorem Tryd.unicode_ToLower_laid (r : Int) (w : World) (hV : CaseVar 4 caseA w) :
    Calls Tryd.prog 79 #[.int .i32 r] w fun e w' => e = .returned (.int .i32 (toLowerU r)) ∧ ∃ q, w' = w.drewN q := Any.unicode_ToLower_laid Tryd.lays204 r w hV
end Go.Proofs
