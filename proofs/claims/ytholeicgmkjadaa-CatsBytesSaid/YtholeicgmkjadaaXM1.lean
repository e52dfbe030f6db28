/- The machine of this program. -/
import Derived.Test.YtholeicgmkjadaaTsTab
import Derived.Test.YtholeicgmkjadaaTsXH
namespace Go.Proofs.Ytholeicgmkjadaa
open Go.Ts
noncomputable def GT : Tr (Option TI) := Tr.of L
noncomputable def FT : Tr Func := Tr.of Try.prog.funcs.toList
noncomputable def mach (live : FuncId → Nat → Bool) (known : FuncId → Option (List T → HS → Option (T × HS))) : Mach := ⟨tabG GT, FT, live, known⟩
theorem names_ok : namesOK Try.prog.funcs.toList = true := by kernel_rfl
set_option maxRecDepth 100000 in
theorem mach_ok (live : FuncId → Nat → Bool) {known : FuncId → Option (List T → HS → Option (T × HS))} (hk : ∀ g f, known g = some f → ∀ ts h t h', f ts h = some (t, h') → ∀ σ, HCov σ h → ACalls Try.prog g ts σ (fun u σ' => u = t ∧ HCov σ' h')) :
    MachOK Try.prog (mach live known) := ⟨by kernel_rfl, tabG_fits hG, func_ok names_ok, hk⟩
def noLive (_ : FuncId) (_ : Nat) : Bool := false
def noKnown (_ : FuncId) : Option (List T → HS → Option (T × HS)) := none
end Go.Proofs.Ytholeicgmkjadaa
