/- cats: the law CatsBounds: its begun, by the machine. -/
import Derived.Test.YtholeicgmkjadaaXM1
import Derived.Test.YtholeicgmkjadaaTsXJ
import Derived.KernelRfl
namespace Go.Proofs.Ytholeicgmkjadaa
open Go.Ts
def lvC (f _t : Nat) : Bool := Nat.beq f 70
theorem kn0_ok : ∀ g f, noKnown g = some f → ∀ ts h t h', f ts h = some (t, h') → ∀ σ, HCov σ h → ACalls Try.prog g ts σ (fun u σ' => u = t ∧ HCov σ' h') := fun g f h => by cases h
set_option maxRecDepth 100000 in
theorem c_begun : Ts.Pure Try.prog 19 [] (.bool true) := run_pure0 (M := mach lvC noKnown) (mach_ok lvC kn0_ok) (n := 20000) (by kernel_rfl)
end Go.Proofs.Ytholeicgmkjadaa
