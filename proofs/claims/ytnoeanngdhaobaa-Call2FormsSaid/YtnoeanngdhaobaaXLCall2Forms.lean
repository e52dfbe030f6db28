/- The law Call2Forms, run by the machine over trees. -/
import Derived.Test.YtnoeanngdhaobaaXM2
import Derived.KernelRfl
namespace Go.Proofs.Ytnoeanngdhaobaa
open Go.Ts
set_option maxRecDepth 100000 in
theorem call2Forms_law (_W : World) : ACalls Try.prog 6 [] σ0 (fun r _ => r = .bool true) := run_law (M := mach lv2 kn2) m2_ok (n := 20000) (by kernel_rfl)
end Go.Proofs.Ytnoeanngdhaobaa
