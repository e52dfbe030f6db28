/- The law ScodeForms, run by the machine over trees. -/
import Derived.Test.YtjcfhhepnjmchaaXM2
import Derived.KernelRfl
namespace Go.Proofs.Ytjcfhhepnjmchaa
open Go.Ts
set_option maxRecDepth 100000 in
theorem scodeForms_law (_W : World) : ACalls Try.prog 15 [] σ0 (fun r _ => r = .bool true) := run_law (M := mach lv2 kn2) m2_ok (n := 20000) (by kernel_rfl)
end Go.Proofs.Ytjcfhhepnjmchaa
