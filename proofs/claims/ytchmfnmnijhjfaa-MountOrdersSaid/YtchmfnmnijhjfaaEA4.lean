/- Their equations, part 4. -/
import Derived.Test.YtchmfnmnijhjfaaDA
import Derived.KernelRfl
namespace Go.Proofs.Ytchmfnmnijhjfaa.EA
open Go Go.Proofs Go.Proofs.Ytchmfnmnijhjfaa.Pv
set_option maxRecDepth 100000
theorem spylaw2_MountOrders.p14_eq (order7 : Int) (e9 : Int) (t14 : Int) (m3 : (Int × Int × Int × Int) × (Int × Int × Int × Int) × Int × Int) (s4 : (Int × Int × Int × Bool) × (Int × Int × Int × Bool) × Int) (p5 : Int × Int) (x8 : (Int × Int × Int × Bool) × (Int × Int × Int × Bool) × Int) : spylaw2_MountOrders.p14 order7 e9 t14 m3 s4 p5 x8 = (spyref2_MountOrder m3 s4 order7 p5).bind fun r => if (!(((x8.1.1 == r.1.1.1) && ((x8.1.2.1 == r.1.1.2.1) && ((x8.1.2.2.1 == r.1.1.2.2.1) && (x8.1.2.2.2 == r.1.1.2.2.2)))) && (((x8.2.1.1 == r.1.2.1.1) && ((x8.2.1.2.1 == r.1.2.1.2.1) && ((x8.2.1.2.2.1 == r.1.2.1.2.2.1) && (x8.2.1.2.2.2 == r.1.2.1.2.2.2)))) && (x8.2.2 == r.1.2.2)))) = false then (if (e9 != r.2) = true then (some false) else (spylaw2_MountOrders.p4 (IntKind.i64.wrap (t14 + 1)) m3 s4 p5)) else (some false) := (ptL_eq ..).trans (by kernel_rfl)
end Go.Proofs.Ytchmfnmnijhjfaa.EA
