/- The shelf's contracts, laid at this program. -/
import Derived.Shelf.SlMaps.Clone
import Derived.Ground.SlmcProg
import Derived.Test.YtpinhomalmknjaaDoorProg
namespace Go.Proofs
open Go.Shelf
def Tryd.cloneB_ren : Go.Shelf.Ren := ⟨fun | 5 => 54 | 7 => 70 | n => n, fun | 23 => 76 | 25 => 3 | 3 => 3 | 4 => 4 | 20 => 20 | n => n, fun | n => n⟩
theorem Tryd.cloneB : Go.Proofs.SlLaysW.n5 Tryd.prog Tryd.cloneB_ren := {
  mixed := by kernel_rfl
  f5 := ⟨Tryd.f54.name, by decide, Tryd.func54.trans (congrArg some (by kernel_rfl))⟩
  f7 := Tryd.func70.trans (congrArg some (by kernel_rfl))
  t4 := Tryd.underlying4
  a4 := Tryd.isAgg4
  z4 := Tryd.sizeOf4
  v4 := Tryd.zeroValue4
  t20 := Tryd.underlying20
  a20 := Tryd.isAgg20
  z20 := Tryd.sizeOf20
  v20 := Tryd.zeroValue20
  t23 := Tryd.underlying76
  a23 := Tryd.isAgg76
  z23 := Tryd.sizeOf76
  v23 := Tryd.zeroValue76 }
end Go.Proofs
