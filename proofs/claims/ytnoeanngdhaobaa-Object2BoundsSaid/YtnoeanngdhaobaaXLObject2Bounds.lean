/- The law Object2Bounds, run by the machine over trees. -/
import Derived.Test.YtnoeanngdhaobaaXM3
import Derived.KernelRfl
namespace Go.Proofs.Ytnoeanngdhaobaa
open Go.Ts
set_option maxRecDepth 100000 in
theorem object2Bounds_law (_W : World) : ACalls Try.prog 8 [] σ0 (fun r _ => r = .bool true) := run_law (M := mach lv3 kn2) m3_ok (n := 20000) (by kernel_rfl)
end Go.Proofs.Ytnoeanngdhaobaa
